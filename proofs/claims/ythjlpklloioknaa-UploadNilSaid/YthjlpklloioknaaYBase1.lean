import Derived.Calls
import Derived.Orders
import Derived.Laws.Sem
import Derived.Laws.Cells
import Derived.Laws.Entries
import Derived.Laws.BytesString
import Derived.Laws.Append
import Derived.Laws.World
import Derived.Laws.AppendOwn
import Derived.Tactics
import Derived.LoopN
section
set_option linter.unusedSectionVars false
set_option linter.unusedSimpArgs false
set_option linter.unusedVariables false
namespace Go.Proofs.Ythjlpklloioknaa.Ex
open Go
set_option linter.unusedVariables false
/-- A block: gone; one of the run's own (its type, the cells known of it, from its beginning); one that came in and is only read. -/
inductive Blk where
  | dead
  | own (e : TypeId) (cs : List Value)
  | ro (e : TypeId) (cs : List Value)
  deriving Inhabited
/-- What is known of the temporaries: a tree, so that few steps lead to each. -/
inductive Tr where
  | nil
  | nd (l : Tr) (v : Option Value) (r : Tr)
def Tr.get : Tr → Nat → Option Value
  | .nil, _ => none
  | .nd l v r, i => bif Nat.beq i 0 then v else bif Nat.beq (Nat.mod i 2) 1 then l.get (Nat.div i 2) else r.get (Nat.pred (Nat.div i 2))
def Tr.set : Tr → Nat → Option Value → Tr
  | .nil, _, _ => .nil
  | .nd l v r, i, u => bif Nat.beq i 0 then .nd l u r else bif Nat.beq (Nat.mod i 2) 1 then .nd (l.set (Nat.div i 2) u) v r else .nd l v (r.set (Nat.pred (Nat.div i 2)) u)
def Tr.full : Nat → Tr
  | 0 => .nil
  | n + 1 => .nd (Tr.full n) none (Tr.full n)
structure Fr where
  n : Nat
  t : Tr
def Fr.get (fr : Fr) (i : Nat) : Option Value := bif Nat.blt i fr.n then fr.t.get i else none
def Fr.set (fr : Fr) (i : Nat) (v : Option Value) : Fr := ⟨fr.n, fr.t.set i v⟩
def Fr.empty (n : Nat) : Fr := ⟨n, Tr.full (Nat.log2 n + 1)⟩
abbrev Hp := List Blk
/-- What an operation leaves: its value, the heap, the blocks that it wrote. -/
structure Res where
  v : Value
  hp : Hp
  wr : List Nat
inductive Xt where
  | normal
  | exit (id : Nat)
  | ret
  | pan (ch : List PanicEntry)
structure Out where
  ex : Xt
  fr : Fr
  hp : Hp
  wr : List Nat
def flat1 : Value → Bool
  | .bool _ | .int _ _ | .string _ | .nilFunc | .nilIface => true
  | .pointer none | .slice none 0 0 | .map none => true
  | .func _ f c => f.size == 0 && c.size == 0
  | _ => false
def flatC : Value → Bool
  | .agg cs => cs.toList.all flat1
  | v => flat1 v
def flat : Value → Bool
  | .tuple cs => cs.toList.all flatC
  | v => flatC v
/-- What stands for what: the real block, where the named one begins in it, how many cells there are, how many an element has. -/
structure Nm where
  g : Nat
  o : Nat
  S : Nat
  u : Nat
def Nm.at (N : Nm) (i : Nat) : Addr := ⟨N.g, N.o + i, none⟩
abbrev Nu := Nat → Option Nm
inductive L2 {α β : Type} (R : α → β → Prop) : List α → List β → Prop
  | nil : L2 R [] []
  | cons {a b l m} : R a b → L2 R l m → L2 R (a :: l) (b :: m)
def VR0 (ν : Nu) (v v' : Value) : Prop :=
  match v with
  | .pointer (some a) => ∃ N, ν a.block = some N ∧ a.spot = none ∧ v' = .pointer (some (N.at a.off))
  | .slice (some a) len cap => ∃ a' cap', v' = .slice (some a') len cap' ∧ cap ≤ cap' ∧ len ≤ cap' ∧ (0 < cap' → ∃ N, ν a.block = some N ∧ a.spot = none ∧ a' = N.at a.off ∧ a.off + cap' * N.u = N.S)
  | .bool _ | .int _ _ | .string _ | .nilFunc | .nilIface | .pointer none | .slice none 0 0 | .map none => v' = v
  | _ => False
def VR1 (ν : Nu) (v v' : Value) : Prop :=
  match v with
  | .func fn f c => ∃ f' c', v' = .func fn f' c' ∧ L2 (VR0 ν) f.toList f'.toList ∧ L2 (VR0 ν) c.toList c'.toList
  | v => VR0 ν v v'
def VRC (ν : Nu) (v v' : Value) : Prop :=
  match v with
  | .agg cs => ∃ cs', v' = .agg cs' ∧ L2 (VR1 ν) cs.toList cs'.toList
  | v => VR1 ν v v'
def VR (ν : Nu) (v v' : Value) : Prop :=
  match v with
  | .tuple cs => ∃ cs', v' = .tuple cs' ∧ L2 (VRC ν) cs.toList cs'.toList
  | v => VRC ν v v'
def flatT (P : Program) : Nat → TypeId → Bool
  | 0, _ => false
  | n + 1, t => match P.underlying t with
    | some .bool | some (.int _) | some .string => true
    | some (.struct fs) => fs.toList.all fun f => flatT P n f.type
    | some (.array _ e) => flatT P n e
    | _ => false
def sz (P : Program) (t : TypeId) : Option Nat := (P.info? t).map (·.size)
def CR (P : Program) (ν : Nu) (e : TypeId) (v v' : Value) : Prop := VR1 ν v v' ∧ (flatT P 6 e = true → flat1 v = true)
def FzOk (P : Program) (e : TypeId) (n lo hi : Nat) : Prop := (∀ o, o < n → ¬ (lo ≤ o ∧ o < hi)) ∧ (P.underlying e ≠ some (.int .u8) → lo = 0 ∧ hi = 0)
def RepBlk (P : Program) (ν : Nu) (w : World) (id : Nat) : Blk → Prop
  | .dead => True
  | .own e cs => ∃ g cur lo hi, ν id = some ⟨g, 0, cur.size, (sz P e).getD 0⟩ ∧ w.heap[g]? = some (.cells cur e (lo, hi)) ∧ FzOk P e cur.size lo hi ∧ cs.length ≤ cur.size ∧ L2 (CR P ν e) cs (cur.toList.take cs.length)
  | .ro e cs => ∃ N, ν id = some N ∧ N.u = (sz P e).getD 0 ∧ N.g < w.heap.size ∧ ∃ cs', L2 (CR P ν e) cs cs' ∧ ∀ i v, cs'[i]? = some v → w.cell? (N.at i) = some v
def Blk.live : Blk → Bool
  | .dead => false
  | _ => true
def Blk.isOwn : Blk → Bool
  | .own _ _ => true
  | _ => false
structure Rep (P : Program) (ν : Nu) (hp : Hp) (w : World) : Prop where
  dom : ∀ id, hp.length ≤ id → ν id = none
  blk : ∀ id, RepBlk P ν w id (hp.getD id .dead)
  sep : ∀ i j N K, i ≠ j → (hp.getD i .dead).isOwn = true → (hp.getD j .dead).live = true → ν i = some N → ν j = some K → N.g ≠ K.g
def FrRel (ν : Nu) (fr : Fr) (tmps : Array Value) : Prop := fr.n = tmps.size ∧ ∀ (t : Nat) v, fr.get t = some v → ∃ v', tmps[t]? = some v' ∧ VR ν v v'
/-- Where a run stands, seen from where its function began (the world w0, the first m blocks). -/
structure Inv (P : Program) (w0 : World) (ν0 : Nu) (m : Nat) (ν : Nu) (hp : Hp) (wr : List Nat) (w : World) : Prop where
  rep : Rep P ν hp w
  len : m ≤ hp.length
  same : ∀ id, id < m → ν id = ν0 id
  os : w.os = w0.os
  tape : w.tape = w0.tape
  output : w.output = w0.output
  size : w0.heap.size ≤ w.heap.size
  frame : ∀ g, g < w0.heap.size → (∀ id N, id < m → id ∈ wr → ν0 id = some N → N.g ≠ g) → w.heap[g]? = w0.heap[g]?
  fresh : ∀ id N, m ≤ id → (hp.getD id .dead).live = true → ν id = some N → w0.heap.size ≤ N.g ∨ ∃ j K, j < m ∧ j ∈ wr ∧ ν0 j = some K ∧ K.g = N.g
def Xt.of : Xt → Exit
  | .normal => .normal
  | .exit id => .exit id
  | .ret => .ret
  | .pan ch => .panic ch
def CodeSpec (P : Program) (m : Nat) (c : Code) (fr : Fr) (hp : Hp) (o : Out) : Prop :=
  ∀ w0 ν0 ν wr (a : Act) w (Q : Exit → Act → World → Prop), Inv P w0 ν0 m ν hp wr w → FrRel ν fr a.tmps →
    (∀ ν' (a' : Act) w', Inv P w0 ν0 m ν' o.hp (o.wr ++ wr) w' → FrRel ν' o.fr a'.tmps → a'.defers = a.defers → Q o.ex.of a' w') → c.wp P Q a w
def CallSpec (P : Program) (f : FuncId) (args : List Value) (hp : Hp) (r : Res) : Prop :=
  ∀ ν w args', L2 (VR ν) args args' → Rep P ν hp w → Calls P f args'.toArray w fun e w' => ∃ v' ν', e = .returned v' ∧ VR ν' r.v v' ∧ Inv P w ν hp.length ν' r.hp r.wr w'
inductive Itm where
  | dec (b : Bool)
  | must
  | val (v : Value)
  | call (r : Res)
  | loop (keep : List Nat) (r : Out)
abbrev Orcs := List (Nat × Itm)
/-- An answer: the value, what is left of the oracle, whether all checks held, what is owed. -/
structure Ans (α : Type) where
  a : α
  orc : Orcs
  ok : Bool
  owe : List Prop
abbrev M (α : Type) := Orcs → Option (Ans α)
def M.bind {α β : Type} (x : M α) (f : α → M β) : M β := fun o => match x o with
  | none => none
  | some ⟨a, o, k, w⟩ => match f a o with
    | none => none
    | some ⟨b, o, k', w'⟩ => some ⟨b, o, k && k', w ++ w'⟩
def M.map {α β : Type} (f : α → β) (x : M α) : M β := fun o => match x o with | none => none | some ⟨a, o, k, w⟩ => some ⟨f a, o, k, w⟩
def ret {α : Type} (a : α) : M α := fun o => some ⟨a, o, true, []⟩
def stop {α : Type} : M α := fun _ => none
def lift {α : Type} : Option α → M α
  | some a => ret a
  | none => stop
def chk (b : Bool) : M Unit := fun o =>
  match o with
  | [] => some ⟨(), [], b, []⟩
  | (0, .must) :: r => some ⟨(), r, true, [b = true]⟩
  | (0, _) :: _ => none
  | (k + 1, i) :: r => some ⟨(), (k, i) :: r, b, []⟩
def ask (b : Bool) : M Bool := fun o =>
  match o with
  | [] => some ⟨b, [], true, []⟩
  | (0, .dec d) :: r => some ⟨d, r, true, [b = d]⟩
  | (0, _) :: _ => none
  | (k + 1, i) :: r => some ⟨b, (k, i) :: r, true, []⟩
def val (fr : Fr) : Operand → Option Value
  | .tmp t => fr.get t
  | .const v => if flat v = true then some v else none
  | .func f => some (.func (.func f) #[] #[])
  | .global _ => none
def vals (fr : Fr) : List Operand → Option (List Value)
  | [] => some []
  | x :: xs => (val fr x).bind fun v => (vals fr xs).bind fun vs => some (v :: vs)
def cellsAt (hp : Hp) (b : Nat) : Option (List Value) :=
  match hp.getD b .dead with
  | .own _ cs => some cs
  | .ro _ cs => some cs
  | .dead => none
def zeroT (P : Program) (t : TypeId) : Option Value := (P.info? t).bind (·.zero)
def aggT (P : Program) (t : TypeId) : Option Bool := (P.underlying t).map fun | .struct _ | .array _ _ => true | _ => false
def unit (P : Program) (hp : Hp) (b : Nat) : Option Nat :=
  match hp.getD b .dead with
  | .own e _ => sz P e
  | .ro e _ => sz P e
  | .dead => none
def isInt (k : IntKind) : Value → Bool
  | .int j _ => j == k
  | _ => false
def intOf : Value → Int
  | .int _ n => n
  | _ => 0
def isBool : Value → Bool
  | .bool _ => true
  | _ => false
def boolOf : Value → Bool
  | .bool b => b
  | _ => false
def isStr : Value → Bool
  | .string _ => true
  | _ => false
def strOf : Value → ByteArray
  | .string s => s
  | _ => .empty
def see (v : Value) : M Value := fun o =>
  match o with
  | [] => some ⟨v, [], true, []⟩
  | (0, .val u) :: r => some ⟨u, r, true, [v = u]⟩
  | (0, _) :: _ => none
  | (k + 1, i) :: r => some ⟨v, (k, i) :: r, true, []⟩
def asT (P : Program) (t : TypeId) (v : Value) : M Value :=
  match P.underlying t with
  | some (.int k) => (chk (isInt k v)).bind fun _ => ret (.int k (intOf v))
  | some .bool => (chk (isBool v)).bind fun _ => ret (.bool (boolOf v))
  | some .string => (chk (isStr v)).bind fun _ => ret (.string (strOf v))
  | _ => ret v
def put (cs : List Value) (o : Nat) : List Value → List Value
  | [] => cs
  | v :: vs => put (cs.set o v) (o + 1) vs
def loadA (P : Program) (hp : Hp) (t : TypeId) : Value → M Value
  | .pointer (some ⟨b, o, none⟩) => (lift (cellsAt hp b)).bind fun cs => (lift (aggT P t)).bind fun g =>
      if g = true then (lift (sz P t)).bind fun n => (chk (decide (o + n ≤ cs.length))).bind fun _ => ret (.agg ((cs.drop o).take n).toArray)
      else (chk (decide (o < cs.length))).bind fun _ => asT P t (cs.getD o undef)
  | _ => stop
def wrN (P : Program) (hp : Hp) (b o : Nat) (fl : Bool) (vs : List Value) : M Hp :=
  match hp.getD b .dead with
  | .own e cs => (chk (decide (o + vs.length ≤ cs.length) && (!flatT P 6 e || fl))).bind fun _ => ret (hp.set b (.own e (put cs o vs)))
  | _ => stop
def storeA (P : Program) (hp : Hp) (t : TypeId) (a v : Value) : M Res :=
  match a with
  | .pointer (some ⟨b, o, none⟩) => (lift (sz P t)).bind fun n => (chk (v.cells.size == n)).bind fun _ => (wrN P hp b o (v.cells.toList.all flat1) v.cells.toList).map fun hp => ⟨undef, hp, [b]⟩
  | _ => stop
def newA (P : Program) (hp : Hp) (e : TypeId) (cs : List Value) : M Res := (chk (!flatT P 6 e || cs.all flat1)).bind fun _ => ret ⟨.pointer (some ⟨hp.length, 0, none⟩), hp ++ [.own e cs], []⟩
def partA (P : Program) (t : TypeId) (cs : Array Value) (off : Nat) : M Value :=
  (lift (aggT P t)).bind fun g => if g = true then (lift (sz P t)).bind fun n => (chk (decide (off + n ≤ cs.size))).bind fun _ => ret (.agg (cs.extract off (off + n)))
    else (chk (decide (off < cs.size))).bind fun _ => asT P t (cs.toList.getD off undef)
def pureRun (P : Program) {α : Type} : Sem α → Option α
  | .pure a => some a
  | .program k => pureRun P (k P)
  | .mark _ k => pureRun P k
  | _ => none
def at_ (b o : Nat) : Value := .pointer (some ⟨b, o, none⟩)
def fieldA (P : Program) (s : TypeId) (x : Value) (f : Nat) : Option Value :=
  match x, P.underlying s with
  | .pointer (some ⟨b, o, none⟩), some (.struct fs) => (fs[f]?).bind fun g => (sz P g.type).bind fun n => if n = 0 then none else some (at_ b (o + g.offset))
  | _, _ => none
def inside (i : Int) (n : Nat) : Bool := decide (0 ≤ i) && decide (i < (n : Int))
def upto (i : Int) (n : Nat) : Bool := decide (0 ≤ i) && decide (i ≤ (n : Int))
def indexA (P : Program) (t : TypeId) (x i : Value) : M Value :=
  match P.underlying t, x, i with
  | some (.array len e), .pointer (some ⟨b, o, none⟩), .int _ i => (lift (sz P e)).bind fun n => (chk (inside i len)).bind fun _ => ret (at_ b (o + i.toNat * n))
  | some (.slice e), .slice (some ⟨b, o, none⟩) len _, .int _ i => (lift (sz P e)).bind fun n => (chk (inside i len)).bind fun _ => ret (at_ b (o + i.toNat * n))
  | _, _, _ => stop
def boundA (y : Nat) (d : Nat) : Option Value → M Nat
  | none => ret d
  | some (.int _ i) => (chk (upto i y)).bind fun _ => ret i.toNat
  | _ => stop
def cutA (P : Program) (hp : Hp) (t : TypeId) (x : Value) (lo hi : Option Value) : M Value :=
  match P.underlying t, x with
  | some .string, .string s => (boundA s.size s.size hi).bind fun h => (boundA h 0 lo).bind fun l => ret (.string (s.extract l h))
  | some (.slice e), .slice (some ⟨b, o, none⟩) len cap => (boundA cap len hi).bind fun h => (boundA h 0 lo).bind fun l => (lift (sz P e)).bind fun n => (lift (unit P hp b)).bind fun u =>
      (chk (u == n)).bind fun _ => ret (.slice (some ⟨b, o + l * n, none⟩) (h - l) (cap - l))
  | some (.slice e), .slice none 0 0 => (boundA 0 0 hi).bind fun h => (boundA h 0 lo).bind fun l => (lift (sz P e)).bind fun _ => ret (.slice none 0 0)
  | _, _ => stop
def fillA (place : Nat → Option (Nat × Nat)) (cells : List Value) : List (Nat × Value) → M (List Value)
  | [] => ret cells
  | (i, v) :: rest => (lift (place i)).bind fun p => (chk (v.cells.size == p.2 && decide (p.1 + p.2 ≤ cells.length))).bind fun _ => fillA place (put cells p.1 v.cells.toList) rest
def buildA (P : Program) (t : TypeId) (parts : List (Nat × Value)) : M Value :=
  (lift (zeroT P t)).bind fun z => (chk (z.cells.toList.all flat1)).bind fun _ =>
  match P.underlying t with
  | some (.struct fs) => (chk (fs.toList.all fun f => (sz P f.type).isSome)).bind fun _ => (fillA (fun i => (fs[i]?).map fun f => (f.offset, (sz P f.type).getD 0)) z.cells.toList parts).map fun cs => .agg cs.toArray
  | some (.array _ e) => (lift (sz P e)).bind fun n => (fillA (fun i => some (i * n, n)) z.cells.toList parts).map fun cs => .agg cs.toArray
  | _ => stop
def zeros (z : List Value) : Nat → List Value
  | 0 => []
  | n + 1 => z ++ zeros z n
def most : Nat := 140737488355328
def buildSliceA (P : Program) (hp : Hp) (t : TypeId) (len : Nat) (parts : List (Nat × Value)) : M Res :=
  match P.underlying t with
  | some (.slice e) => (lift (sz P e)).bind fun n => (lift (zeroT P e)).bind fun z => (chk (decide (len * n ≤ 16777216) && z.cells.size == n && decide (0 < n) && z.cells.toList.all flat1)).bind fun _ =>
      (fillA (fun i => some (i * n, n)) (zeros z.cells.toList len) parts).bind fun cs => (chk (!flatT P 6 e || cs.all flat1)).bind fun _ => ret ⟨.slice (some ⟨hp.length, 0, none⟩) len len, hp ++ [.own e cs], []⟩
  | _ => stop
def makeSliceA (P : Program) (hp : Hp) (t : TypeId) (l c : Value) : M Res :=
  match P.underlying t, l, c with
  | some (.slice e), .int _ l, .int _ c => (lift (P.info? e)).bind fun i => (lift i.zero).bind fun z => (chk (decide (0 ≤ l) && decide (l ≤ c) && decide (c * i.bytes ≤ most) && decide (c ≤ most) && z.cells.size == i.size && decide (0 < i.size) && z.cells.toList.all flat1)).bind fun _ =>
      ret ⟨.slice (some ⟨hp.length, 0, none⟩) l.toNat c.toNat, hp ++ [.own e (zeros z.cells.toList c.toNat)], []⟩
  | _, _, _ => stop
def bytesOf (s : ByteArray) : List Value := s.data.toList.map fun b => .int .u8 b.toNat
def newsA (P : Program) (hp : Hp) (n : Nat) : Value → M (Nat × List Value × Bool)
  | .slice none 0 0 => ret (0, [], true)
  | .slice (some ⟨b, o, none⟩) len _ => match hp.getD b .dead with
    | .own e cs => (chk (decide (o + len * n ≤ cs.length))).bind fun _ => ret (len, (cs.drop o).take (len * n), flatT P 6 e)
    | .ro e cs => (chk (decide (o + len * n ≤ cs.length))).bind fun _ => ret (len, (cs.drop o).take (len * n), flatT P 6 e)
    | .dead => (chk (Nat.beq len 0)).bind fun _ => ret (0, [], true)
  | .string s => (chk (n == 1)).bind fun _ => ret (s.size, bytesOf s, true)
  | _ => stop
def appendA (P : Program) (hp : Hp) (t : TypeId) (s x : Value) : M Res :=
  match P.underlying t with
  | some (.slice e) => (lift (P.info? e)).bind fun i => (lift i.zero).bind fun z => (newsA P hp i.size x).bind fun news => (chk (z.cells.size == i.size && decide (0 < i.size) && decide (0 < i.bytes) && (!flatT P 6 e || news.2.2))).bind fun _ =>
      match s with
      | .slice none 0 0 => (chk (decide (news.1 * i.bytes ≤ most) && decide (news.1 ≤ most))).bind fun _ => (ask (decide (news.1 = 0))).bind fun b =>
          if b = true then ret ⟨.slice none 0 0, hp, []⟩ else ret ⟨.slice (some ⟨hp.length, 0, none⟩) news.1 news.1, hp ++ [.own e news.2.1], []⟩
      | .slice (some ⟨b, 0, none⟩) len cap =>
        match hp.getD b .dead with
        | .own e' cs => (chk (e' == e && decide ((len + news.1) * i.bytes ≤ most) && decide (len + news.1 ≤ most) && decide (len * i.size ≤ cs.length))).bind fun _ => (ask (decide (len + news.1 ≤ cap))).bind fun b1 =>
            if b1 = true then (chk (decide (cap * i.size ≤ cs.length))).bind fun _ => ret ⟨.slice (some ⟨b, 0, none⟩) (len + news.1) cap, hp.set b (.own e (put cs (len * i.size) news.2.1)), [b]⟩
            else (chk (decide (cs.length = len * i.size))).bind fun _ => ret ⟨.slice (some ⟨hp.length, 0, none⟩) (len + news.1) (len + news.1), hp.set b .dead ++ [.own e (cs ++ news.2.1)], [b]⟩
        | _ => stop
      | _ => stop
  | _ => stop
def copyA (P : Program) (hp : Hp) (t : TypeId) (d s : Value) : M Res :=
  match P.underlying t, d with
  | some (.slice e), .slice (some ⟨b, o, none⟩) len _ => (lift (sz P e)).bind fun n => (newsA P hp n s).bind fun news =>
      (wrN P hp b o news.2.2 (news.2.1.take (Nat.min news.1 len * n))).map fun hp => ⟨.int .i64 (Nat.min news.1 len : Nat), hp, [b]⟩
  | _, _ => stop
def unbyte (v : Value) : UInt8 := UInt8.ofNat (intOf v).toNat
def isNilV (P : Program) (t : TypeId) (v : Value) : Option Bool :=
  match P.underlying t, v with
  | some (.pointer _), .pointer none => some true
  | some (.pointer _), .pointer (some _) => some false
  | some (.slice _), .slice none 0 0 => some true
  | some (.slice _), .slice (some _) _ _ => some false
  | some (.func _ _ _), .nilFunc => some true
  | some (.func _ _ _), .func _ _ _ => some false
  | _, _ => none
def convA (P : Program) (hp : Hp) (src dst : TypeId) (x : Value) : M Res :=
  match P.underlying src, P.underlying dst, x with
  | some (.int _), some (.int k), .int _ n => ret ⟨.int k (k.wrap n), hp, []⟩
  | some .string, some .string, .string s => ret ⟨.string s, hp, []⟩
  | some (.slice e), some .string, .slice a l c => match P.underlying e with
      | some (.int .u8) => (newsA P hp 1 (.slice a l c)).bind fun news => (chk (news.2.1.all (isInt .u8))).bind fun _ => ret ⟨.string ⟨(news.2.1.map unbyte).toArray⟩, hp, []⟩
      | _ => stop
  | some .string, some (.slice e), .string s => match P.underlying e with
      | some (.int .u8) => (chk (decide (s.size ≤ most) && sz P e == some 1)).bind fun _ => ret ⟨.slice (some ⟨hp.length, 0, none⟩) s.size s.size, hp ++ [.own e (bytesOf s)], []⟩
      | _ => stop
  | _, _, _ => stop
def envOf (fr : Fr) (x : Operand) : Value := (val fr x).getD undef
def plainA (P : Program) (fr : Fr) (o : Oper) : Option Value :=
  match o.op with
  | .select _ _ => none
  | _ => (vals fr o.op.operands.toList).bind fun vs => if vs.all flat = true then (pureRun P (execOp (envOf fr) o)).bind fun | .value v => if flat v = true then some v else none | _ => none else none
def partV (P : Program) (t : TypeId) (cs : Array Value) (off : Nat) : Option Value :=
  (aggT P t).bind fun g => if g = true then (sz P t).bind fun n => if off + n ≤ cs.size then some (.agg (cs.extract off (off + n))) else none else cs.toList[off]?
def eqAll {α : Type} (f : α → Option Bool) : List α → Option Bool
  | [] => some true
  | x :: xs => (f x).bind fun b => (eqAll f xs).map fun c => b && c
def eqA (P : Program) : Nat → TypeId → Value → Value → Option Bool
  | 0, _, _, _ => none
  | d + 1, t, x, y => match P.underlying t, x, y with
    | some .bool, .bool a, .bool b => some (a == b)
    | some (.int _), .int k a, .int k' b => if k = k' then some (a == b) else none
    | some .string, .string a, .string b => some (a == b)
    | some (.struct fs), .agg xs, .agg ys => if P.stoodInHeld t = true then none else
        eqAll (fun f => if f.name = "_" then some true else (partV P f.type xs f.offset).bind fun x => (partV P f.type ys f.offset).bind fun y => eqA P d f.type x y) fs.toList
    | some (.array len e), .agg xs, .agg ys => (sz P e).bind fun n => eqAll (fun i => (partV P e xs (i * n)).bind fun x => (partV P e ys (i * n)).bind fun y => eqA P d e x y) (List.range len)
    | _, _, _ => none
def eqAgg (P : Program) (t : TypeId) (xs ys : Array Value) : M Bool :=
  (chk (xs.toList.all flat1 && ys.toList.all flat1 && !P.eqGuardType P.depth t)).bind fun _ => lift (eqA P 12 t (.agg xs) (.agg ys))
def binA (P : Program) (fr : Fr) (o : Oper) (op : BinOp) (t : TypeId) (v w : Value) : M Value :=
  match op, v, w with
  | .shl, .int k x, .int _ y => (chk (decide (0 ≤ y))).bind fun _ => ret (.int k (k.wrap (x * 2 ^ (min y.toNat k.bits))))
  | .shr, .int k x, .int _ y => (chk (decide (0 ≤ y))).bind fun _ => ret (.int k (x.fdiv (2 ^ (min y.toNat k.bits))))
  | .quo, .int k x, .int j y => (chk (k == j && decide (y ≠ 0))).bind fun _ => ret (.int k (k.wrap (x.tdiv y)))
  | .rem, .int k x, .int j y => (chk (k == j && decide (y ≠ 0))).bind fun _ => ret (.int k (x.tmod y))
  | .add, .string a, .string b => (chk (decide (a.size + b.size ≤ 9223372036854775807))).bind fun _ => ret (.string (a ++ b))
  | .eql, .agg xs, .agg ys => (eqAgg P t xs ys).map fun b => .bool b
  | .neq, .agg xs, .agg ys => (eqAgg P t xs ys).map fun b => .bool !b
  | .eql, v, w => match plainA P fr o with
    | some r => ret r
    | none => if isNilV P t w = some true then (lift (isNilV P t v)).bind fun b => ret (.bool b) else stop
  | .neq, v, w => match plainA P fr o with
    | some r => ret r
    | none => if isNilV P t w = some true then (lift (isNilV P t v)).bind fun b => ret (.bool !b) else stop
  | _, _, _ => lift (plainA P fr o)
def lvl0 : Value → Bool
  | .agg _ | .tuple _ | .func _ _ _ => false
  | _ => true
def lvlC : Value → Bool
  | .tuple _ => false
  | _ => true
abbrev CallF := FuncId → List Value → Hp → M Res
def parts (fr : Fr) : List (Nat × Operand) → Option (List (Nat × Value))
  | [] => some []
  | (i, x) :: r => (val fr x).bind fun v => (parts fr r).bind fun vs => some ((i, v) :: vs)
def optV (fr : Fr) : Option Operand → Option (Option Value)
  | none => some none
  | some x => (val fr x).map some
def bodied (P : Program) (g : FuncId) : Bool := match P.funcs[g]? with | some fn => fn.body.isSome | none => false
def ExtSpec (P : Program) (g : FuncId) (args : List Value) (u : Value) : Prop := ∀ w : World, (callFunc g args.toArray).run P w = .ok (.value u) w
def extA (P : Program) (fr : Fr) (o : Oper) (g : FuncId) (args : List Value) : M Value := fun s =>
  match s with
  | (0, .call r) :: s => if args.all flat && flat r.v then some ⟨r.v, s, true, [ExtSpec P g args r.v]⟩ else none
  | s => (lift (plainA P fr o)) s
def opA (P : Program) (call : CallF) (fr : Fr) (hp : Hp) (o : Oper) : M Res :=
  let keep (v : Value) : Res := ⟨v, hp, []⟩
  match o.op with
  | .move x | .assign x => (lift (val fr x)).map keep
  | .pick c a b => (lift (val fr c)).bind fun c => match c with
      | .bool c => (ask c).bind fun c => if c = true then (lift (val fr a)).map keep else (lift (val fr b)).map keep
      | _ => stop
  | .alloc e => (lift (zeroT P e)).bind fun z => (chk (z.cells.toList.all flat1)).bind fun _ => newA P hp e z.cells.toList
  | .box e x => (lift (val fr x)).bind fun v => (chk (lvlC v)).bind fun _ => newA P hp e v.cells.toList
  | .load t a => (lift (val fr a)).bind fun a => (loadA P hp t a).map keep
  | .store t a x => (lift (val fr a)).bind fun a => (lift (val fr x)).bind fun v => (chk (lvlC v)).bind fun _ => storeA P hp t a v
  | .nilCheck x => (lift (val fr x)).bind fun v => match v with | .pointer (some a) => ret (keep (.pointer (some a))) | _ => stop
  | .fieldAddr s x f => (lift (val fr x)).bind fun v => (lift (fieldA P s v f)).map keep
  | .indexAddr t x i => (lift (val fr x)).bind fun v => (lift (val fr i)).bind fun i => (indexA P t v i).map keep
  | .slice t x lo hi none => (lift (val fr x)).bind fun v => (lift (optV fr lo)).bind fun lo => (lift (optV fr hi)).bind fun hi => (cutA P hp t v lo hi).map keep
  | .field t x f => (lift (val fr x)).bind fun v => match v, P.underlying t with
      | .agg cs, some (.struct fs) => (lift (fs[f]?)).bind fun g => (partA P g.type cs g.offset).map keep
      | _, _ => stop
  | .index t x i => (lift (val fr x)).bind fun v => (lift (val fr i)).bind fun i => match P.underlying t, v, i with
      | some (.array len e), .agg cs, .int _ i => (lift (sz P e)).bind fun n => (chk (inside i len)).bind fun _ => (partA P e cs (i.toNat * n)).map keep
      | some .string, .string s, .int _ i => (chk (inside i s.size)).bind fun _ => ret (keep (.int .u8 ((s.data.toList.getD i.toNat 0).toNat : Nat)))
      | _, _, _ => stop
  | .extract x i => (lift (val fr x)).bind fun v => match v with | .tuple vs => (lift (vs[i]?)).map keep | _ => stop
  | .build t ps => (lift (parts fr ps.toList)).bind fun ps => (chk (ps.all fun p => lvlC p.2)).bind fun _ => (buildA P t ps).map keep
  | .buildSlice t n ps => (lift (parts fr ps.toList)).bind fun ps => (chk (ps.all fun p => lvlC p.2)).bind fun _ => buildSliceA P hp t n ps
  | .makeSlice t l c => (lift (val fr l)).bind fun l => (lift (val fr c)).bind fun c => makeSliceA P hp t l c
  | .makeFunc fn f c => (lift (vals fr f.toList)).bind fun f => (lift (vals fr c.toList)).bind fun c => (chk (f.all lvl0 && c.all lvl0)).bind fun _ => ret (keep (.func fn f.toArray c.toArray))
  | .convert src dst x => (lift (val fr x)).bind fun v => convA P hp src dst v
  | .binOp op t x y _ => (lift (val fr x)).bind fun v => (lift (val fr y)).bind fun w => (binA P fr o op t v w).map keep
  | .call { callee := .builtin .append, args := as, argTypes := ts } => (lift (vals fr as.toList)).bind fun vs => match vs, ts[0]?, ts[1]? with
      | [s, x], some t, some t2 => (match P.underlying t2 with | some (.slice _) | some .string => appendA P hp t s x | _ => stop)
      | _, _, _ => stop
  | .call { callee := .builtin .copy, args := as, argTypes := ts } => (lift (vals fr as.toList)).bind fun vs => match vs, ts[0]? with
      | [d, s], some t => copyA P hp t d s
      | _, _ => stop
  | .call { callee := .builtin .len, args := as, argTypes := ts } => (lift (vals fr as.toList)).bind fun vs => match vs, (ts[0]?).bind P.underlying with
      | [.slice _ n _], some (.slice _) => ret (keep (.int .i64 n))
      | [.string s], some .string => ret (keep (.int .i64 s.size))
      | [_], some (.array n _) => ret (keep (.int .i64 n))
      | _, _ => stop
  | .call { callee := .value f, args := as, argTypes := _ } => (lift (val fr f)).bind fun fv => (lift (vals fr as.toList)).bind fun vs => match fv with
      | .func (.func g) first captured => if bodied P g = true then call g (first.toList ++ vs ++ captured.toList) hp else (extA P fr o g (first.toList ++ vs ++ captured.toList)).map keep
      | _ => stop
  | _ => (lift (plainA P fr o)).map keep
def opS (P : Program) (call : CallF) (fr : Fr) (hp : Hp) (o : Oper) : M Res := (opA P call fr hp o).bind fun r => (see r.v).map fun v => ⟨v, r.hp, r.wr⟩
def putT (fr : Fr) : Option Tmp → Value → Fr
  | some d, v => fr.set d (some v)
  | none, _ => fr
def wantA (ops : Array Oper) (fr : Fr) (o : Oper) : M Bool :=
  match o.guard with
  | none => ret true
  | some (j, want) =>
    match (ops[j]?).bind (·.dst) with
    | none => ret false
    | some d => match fr.get d with
      | some (.bool b) => (ask b).bind fun b => ret (b == want)
      | some (.tuple _) => ret false
      | _ => stop
def idsV1 : Value → List Nat
  | .pointer (some a) | .slice (some a) _ _ => [a.block]
  | .map (some r) => [r]
  | _ => []
def idsVC : Value → List Nat
  | .agg cs => cs.toList.flatMap idsV1
  | .func _ f c => f.toList.flatMap idsV1 ++ c.toList.flatMap idsV1
  | v => idsV1 v
def idsV : Value → List Nat
  | .tuple cs => cs.toList.flatMap idsVC
  | v => idsVC v
def blkIds (P : Program) : Blk → List Nat
  | .own e cs => if flatT P 6 e = true then [] else cs.flatMap idsVC
  | .ro e cs => if flatT P 6 e = true then [] else cs.flatMap idsVC
  | .dead => []
def reach (P : Program) (hp : Hp) : Nat → List Nat → List Nat → List Nat
  | 0, _, seen => seen
  | _ + 1, [], seen => seen
  | n + 1, b :: r, seen => if seen.contains b = true then reach P hp n r seen else reach P hp n (r ++ blkIds P (hp.getD b .dead)) (seen ++ [b])
def posIn : List Nat → Nat → Option Nat
  | [], _ => none
  | x :: xs, b => if x == b then some 0 else (posIn xs b).map (· + 1)
def mapL {α β : Type} (f : α → Option β) : List α → Option (List β)
  | [] => some []
  | x :: xs => (f x).bind fun y => (mapL f xs).bind fun ys => some (y :: ys)
def ren0 (f : Nat → Option Nat) : Value → Option Value
  | .pointer (some a) => (f a.block).map fun b => .pointer (some ⟨b, a.off, a.spot⟩)
  | .slice (some a) l c => (f a.block).map fun b => .slice (some ⟨b, a.off, a.spot⟩) l c
  | v => if flat1 v = true then some v else none
def ren1 (f : Nat → Option Nat) : Value → Option Value
  | .func fn xs cs => (mapL (ren0 f) xs.toList).bind fun xs => (mapL (ren0 f) cs.toList).map fun cs => .func fn xs.toArray cs.toArray
  | v => ren0 f v
def renC (f : Nat → Option Nat) : Value → Option Value
  | .agg cs => (mapL (ren1 f) cs.toList).map fun cs => .agg cs.toArray
  | v => ren1 f v
def ren (f : Nat → Option Nat) : Value → Option Value
  | .tuple cs => (mapL (renC f) cs.toList).map fun cs => .tuple cs.toArray
  | v => renC f v
def renB (P : Program) (f : Nat → Option Nat) : Blk → Option Blk
  | .dead => some .dead
  | .own e cs => if flatT P 6 e = true then some (.own e cs) else (mapL (ren1 f) cs).map fun cs => .own e cs
  | .ro e cs => if flatT P 6 e = true then some (.ro e cs) else (mapL (ren1 f) cs).map fun cs => .ro e cs
def deep : Nat := 4096
def argIds (P : Program) (hp : Hp) (args : List Value) : List Nat := reach P hp deep (args.flatMap idsV) []
def backTo (ids : List Nat) (base j : Nat) : Option Nat := if j < ids.length then ids[j]? else some (base + (j - ids.length))
def setAll (P : Program) (f : Nat → Option Nat) (ids : List Nat) (h2 : Hp) : List Nat → Hp → Option Hp
  | [], hp => some hp
  | j :: r, hp => (ids[j]?).bind fun b => (renB P f (h2.getD j .dead)).bind fun k => setAll P f ids h2 r (hp.set b k)
def callA (P : Program) (inl : CallF) (g : FuncId) (args : List Value) (hp : Hp) : M Res :=
  let ids := argIds P hp args
  (lift (mapL (ren (posIn ids)) args)).bind fun args' => (lift (mapL (fun b => renB P (posIn ids) (hp.getD b .dead)) ids)).bind fun sub =>
    (inl g args' sub).bind fun r => (chk (decide (ids.length ≤ r.hp.length) && r.wr.all fun j => (sub.getD j .dead).isOwn)).bind fun _ =>
      (lift (ren (backTo ids hp.length) r.v)).bind fun v =>
      (lift (setAll P (backTo ids hp.length) ids r.hp r.wr hp)).bind fun hp1 =>
      (lift (mapL (renB P (backTo ids hp.length)) (r.hp.drop ids.length))).bind fun news =>
        ret ⟨v, hp1 ++ news, (r.wr.filterMap fun j => ids[j]?)⟩
def toldA (P : Program) (inl : CallF) : CallF := fun g args hp o =>
  match o with
  | (0, .call r) :: o => some ⟨r, o, true, [CallSpec P g args hp r]⟩
  | (0, _) :: _ => none
  | (k + 1, i) :: o => inl g args hp ((k, i) :: o)
  | [] => inl g args hp []
def idsO (fr : Fr) (x : Operand) : List Nat := match val fr x with | some v => idsV v | none => []
def footA (P : Program) (fr : Fr) (hp : Hp) (o : Oper) : List Nat :=
  match o.op with
  | .load _ a | .store _ a _ => idsO fr a
  | .slice _ x _ _ _ | .convert _ _ x => idsO fr x
  | .call { callee := .builtin _, args := as, .. } => as.toList.flatMap (idsO fr)
  | .call { callee := .value f, args := as, .. } => match val fr f, vals fr as.toList with
      | some (.func _ first captured), some vs => argIds P hp (first.toList ++ vs ++ captured.toList)
      | _, _ => []
  | _ => []
/-- What each operation looked at; what it changed, or made (from, to). -/
structure Step where
  rd : List Nat
  wr : List Nat
  lo : Nat
  hi : Nat
def hits (s : Step) (b : Nat) : Bool := s.wr.contains b || (s.lo ≤ b && b < s.hi)
def clash (s t : Step) : Bool := t.rd.any (hits s) || t.wr.any (hits s) || s.rd.any (hits t) || s.wr.any (hits t)
def opsA (P : Program) (call : CallF) (all : Array Oper) : List Oper → Fr → Hp → List Nat → List Step → M (Fr × Hp × List Nat × List Step)
  | [], fr, hp, wr, st => ret (fr, hp, wr, st.reverse)
  | o :: os, fr, hp, wr, st => (wantA all fr o).bind fun b =>
      if b = true then (opS P call fr hp o).bind fun r => opsA P call all os (putT fr o.dst r.v) r.hp (r.wr ++ wr) (⟨footA P fr hp o, r.wr, hp.length, r.hp.length⟩ :: st)
      else opsA P call all os (putT fr o.dst undef) hp wr (⟨[], [], hp.length, hp.length⟩ :: st)
def calmS (ops : Array Oper) : Bool :=
  let b := Region.before ops
  (List.range ops.size).all fun j => ((ops.getD j default).after.toList.all fun e => !Region.binds .any e || decide (e.on < j)) && (List.range j).all fun i => (b.getD j 0).testBit i || Oper.apart ops (ops.getD i default) (ops.getD j default)
def calmC : Code → Bool
  | .region _ ops draw => !draw || calmS ops
  | .seq a b => calmC a && calmC b
  | .cond _ a b => calmC a && calmC b
  | .block _ a => calmC a
  | .loop a => calmC a
  | _ => true
def Calm (P : Program) : Prop := ∀ (f : FuncId) (fn : Func) (c : Code), P.funcs[f]? = some fn → fn.body = some c → calmC c = true
def idle (s : Step) : Bool := s.rd.isEmpty && s.wr.isEmpty && decide (s.hi ≤ s.lo)
def busy : Nat → List Step → List (Nat × Step)
  | _, [] => []
  | i, s :: r => if idle s = true then busy (i + 1) r else (i, s) :: busy (i + 1) r
def calm (ops : Array Oper) (st : List Step) : Bool :=
  let l := busy 0 st
  l.all fun q => l.all fun p => !decide (p.1 < q.1) || !clash p.2 q.2 || ((Region.before ops).getD q.1 0).testBit p.1
def frOf (n : Nat) : List (Nat × Value) → Fr
  | [] => .empty n
  | (t, v) :: r => (frOf n r).set t (some v)
def keepT (fr : Fr) : List Nat → List (Nat × Value)
  | [] => []
  | t :: r => match fr.get t with
    | some v => (t, v) :: keepT fr r
    | none => keepT fr r
def frIds : List (Nat × Value) → List Nat
  | [] => []
  | p :: r => idsV p.2 ++ frIds r
def renF (f : Nat → Option Nat) : List (Nat × Value) → Option (List (Nat × Value))
  | [] => some []
  | (t, v) :: r => (ren f v).bind fun v => (renF f r).map fun r => (t, v) :: r
def tidy (P : Program) (m : Nat) (keep : List Nat) (o : Out) : Option Out :=
  let l := keepT o.fr keep
  let ids := reach P o.hp deep (List.range m ++ frIds l) []
  (renF (posIn ids) l).bind fun l => (mapL (fun b => renB P (posIn ids) (o.hp.getD b .dead)) ids).bind fun hp =>
    if ids.take m = List.range m then some ⟨o.ex, frOf o.fr.n l, hp, o.wr.filter (· < m)⟩ else none
def iter (f : Fr → Hp → M Out) : Nat → Fr → Hp → List Nat → M Out
  | 0, _, _, _ => stop
  | n + 1, fr, hp, wr => (f fr hp).bind fun r => match r.ex with
    | .normal => iter f n r.fr r.hp (r.wr ++ wr)
    | e => ret ⟨e, r.fr, r.hp, r.wr ++ wr⟩
def run (P : Program) (call : CallF) (m n : Nat) : Code → Fr → Hp → M Out
  | .skip, fr, hp => ret ⟨.normal, fr, hp, []⟩
  | .label _, fr, hp => ret ⟨.normal, fr, hp, []⟩
  | .region id ops draw, fr, hp => fun o => match o with
    | (0, .loop keep r) :: o => match tidy P m keep ⟨.normal, fr, hp, []⟩ with
      | some t => some ⟨r, o, true, [CodeSpec P m (.region id ops draw) t.fr t.hp r]⟩
      | none => none
    | o => ((opsA P call ops ops.toList fr hp [] []).bind fun r => (chk (!draw || calm ops r.2.2.2)).bind fun _ => ret ⟨.normal, r.1, r.2.1, r.2.2.1⟩) o
  | .seq a b, fr, hp => (run P call m n a fr hp).bind fun r => match r.ex with
    | .normal => (run P call m n b r.fr r.hp).map fun q => ⟨q.ex, q.fr, q.hp, q.wr ++ r.wr⟩
    | e => ret ⟨e, r.fr, r.hp, r.wr⟩
  | .cond c x y, fr, hp => fun o => match o with
    | (0, .loop keep r) :: o => match tidy P m keep ⟨.normal, fr, hp, []⟩ with
      | some t => some ⟨r, o, true, [CodeSpec P m (.cond c x y) t.fr t.hp r]⟩
      | none => none
    | o => ((lift (val fr c)).bind fun v => match v with
      | .bool b => (ask b).bind fun b => if b = true then run P call m n x fr hp else run P call m n y fr hp
      | _ => stop) o
  | .block id c, fr, hp => (run P call m n c fr hp).map fun r => match r.ex with
    | .exit j => if j = id then ⟨.normal, r.fr, r.hp, r.wr⟩ else ⟨.exit j, r.fr, r.hp, r.wr⟩
    | e => ⟨e, r.fr, r.hp, r.wr⟩
  | .loop c, fr, hp => fun o => match o with
    | (0, .loop keep r) :: o => match tidy P m keep ⟨.normal, fr, hp, []⟩ with
      | some t => some ⟨r, o, true, [CodeSpec P m (.loop c) t.fr t.hp r]⟩
      | none => none
    | (0, _) :: _ => none
    | (k + 1, i) :: o => iter (run P call m n c) n fr hp [] ((k, i) :: o)
    | [] => iter (run P call m n c) n fr hp [] []
  | .exit id, fr, hp => ret ⟨.exit id, fr, hp, []⟩
  | .ret, fr, hp => ret ⟨.ret, fr, hp, []⟩
  | _, _, _ => stop
def resA (P : Program) (fr : Fr) (hp : Hp) : List ResultVar → M (List Value)
  | [] => ret []
  | .tmp t :: r => (lift (fr.get t)).bind fun v => (resA P fr hp r).map fun vs => v :: vs
  | .cell a t :: r => (lift (fr.get a)).bind fun x => (loadA P hp t x).bind fun v => (resA P fr hp r).map fun vs => v :: vs
def tie : List Value → Value
  | [v] => v
  | vs => .tuple vs.toArray
def outA (P : Program) (m : Nat) (v : Value) (hp : Hp) (wr : List Nat) : Option Res :=
  let ids := reach P hp deep (List.range m ++ idsV v) []
  (ren (posIn ids) v).bind fun v => (mapL (fun b => renB P (posIn ids) (hp.getD b .dead)) ids).bind fun hp =>
    if ids.take m = List.range m then some ⟨v, hp, wr.filter (· < m)⟩ else none
def frArgs (fr : Fr) : Nat → List Value → Fr
  | _, [] => fr
  | i, v :: vs => (frArgs fr (i + 1) vs).set i (some v)
def frame0 (fn : Func) (args : List Value) : Fr := frArgs (.empty fn.ntmps) 0 args
def exec (P : Program) : Nat → CallF
  | 0 => fun _ _ _ => stop
  | n + 1 => fun f args hp =>
    (lift (P.funcs[f]?)).bind fun fn => (lift fn.body).bind fun c => (chk (decide (args.length ≤ fn.ntmps))).bind fun _ =>
      (run P (callA P (toldA P (exec P n))) hp.length n c (frame0 fn args) hp).bind fun r => match r.ex with
        | .exit _ => stop
        | .pan _ => stop
        | _ => (resA P r.fr r.hp fn.results.toList).bind fun vs => (chk (vs.all lvlC)).bind fun _ => lift (outA P hp.length (tie vs) r.hp r.wr)
def go {α : Type} (x : M α) (o : Orcs) : Option (α × Bool × List Prop) := (x o).bind fun r => match r.orc with | [] => some (r.a, r.ok, r.owe) | _ => none
end Go.Proofs.Ythjlpklloioknaa.Ex
namespace Go.Proofs.Ythjlpklloioknaa.Ex
open Go
set_option linter.unusedVariables false
set_option linter.unusedSimpArgs false
section
variable {α β γ : Type} {R S : α → β → Prop}
theorem L2.len {l : List α} {m : List β} (h : L2 R l m) : l.length = m.length := by
  induction h with
  | nil => rfl
  | cons _ _ ih => simp [ih]
theorem L2.mono {l : List α} {m : List β} (h : L2 R l m) (hr : ∀ a b, R a b → S a b) : L2 S l m := by
  induction h with
  | nil => exact .nil
  | cons h _ ih => exact .cons (hr _ _ h) ih
theorem L2.get {l : List α} {m : List β} (h : L2 R l m) : ∀ (i : Nat) a, l[i]? = some a → ∃ b, m[i]? = some b ∧ R a b := by
  induction h with
  | nil => intro i a h; simp at h
  | cons h _ ih =>
    intro i a ha
    cases i with
    | zero => simp at ha; subst ha; exact ⟨_, rfl, h⟩
    | succ i => simpa using ih i a (by simpa using ha)
theorem L2.get' {l : List α} {m : List β} (h : L2 R l m) : ∀ (i : Nat) b, m[i]? = some b → ∃ a, l[i]? = some a ∧ R a b := by
  induction h with
  | nil => intro i a h; simp at h
  | cons h _ ih =>
    intro i a ha
    cases i with
    | zero => simp at ha; subst ha; exact ⟨_, rfl, h⟩
    | succ i => simpa using ih i a (by simpa using ha)
theorem L2.append {l l' : List α} {m m' : List β} (h : L2 R l m) (h' : L2 R l' m') : L2 R (l ++ l') (m ++ m') := by
  induction h with
  | nil => exact h'
  | cons h _ ih => exact .cons h ih
theorem L2.take {l : List α} {m : List β} (h : L2 R l m) : ∀ n, L2 R (l.take n) (m.take n) := by
  induction h with
  | nil => intro n; simp; exact .nil
  | cons h _ ih => intro n; cases n with
    | zero => exact .nil
    | succ n => exact .cons h (ih n)
theorem L2.drop {l : List α} {m : List β} (h : L2 R l m) : ∀ n, L2 R (l.drop n) (m.drop n) := by
  induction h with
  | nil => intro n; simp; exact .nil
  | cons h t ih => intro n; cases n with
    | zero => exact .cons h t
    | succ n => exact ih n
theorem L2.set {l : List α} {m : List β} (h : L2 R l m) : ∀ (i : Nat) {a b}, R a b → L2 R (l.set i a) (m.set i b) := by
  induction h with
  | nil => intro i a b _; exact .nil
  | cons h t ih => intro i a b hr; cases i with
    | zero => exact .cons hr t
    | succ i => exact .cons h (ih i hr)
theorem L2.refl (l : List α) : L2 (fun a b => b = a) l l := by
  induction l with
  | nil => exact .nil
  | cons x l ih => exact .cons rfl ih
theorem L2.flatMap {δ : Type} {R' : γ → δ → Prop} {l : List α} {m : List β} (h : L2 R l m) {f : α → List γ} {g : β → List δ} (hf : ∀ a b, R a b → L2 R' (f a) (g b)) : L2 R' (l.flatMap f) (m.flatMap g) := by
  induction h with
  | nil => exact .nil
  | cons h _ ih => simpa using (hf _ _ h).append ih
end
def Ans.good {α : Type} (r : Ans α) : Prop := r.ok = true ∧ ∀ p ∈ r.owe, p
def Sat {α : Type} (x : M α) (R : α → Prop) : Prop := ∀ o r, x o = some r → r.good → R r.a
section
variable {α β : Type}
theorem Sat.mono {x : M α} {R S : α → Prop} (h : Sat x R) (hr : ∀ a, R a → S a) : Sat x S := fun o r he hg => hr _ (h o r he hg)
theorem Sat.ret (a : α) {R : α → Prop} (h : R a) : Sat (Ex.ret a) R := by
  intro o r he _
  cases he
  exact h
theorem Sat.stop {R : α → Prop} : Sat (Ex.stop : M α) R := by
  intro o r he
  cases he
theorem Sat.bind {x : M α} {f : α → M β} {R : α → Prop} {S : β → Prop} (hx : Sat x R) (hf : ∀ a, R a → Sat (f a) S) : Sat (x.bind f) S := by
  intro o r he hg
  unfold M.bind at he
  split at he
  · cases he
  · rename_i a o1 k w h1
    split at he
    · cases he
    · rename_i b o2 k' w' h2
      simp only [Option.some.injEq] at he
      subst he
      have hk := hg.1
      simp only [Bool.and_eq_true] at hk
      have g1 : (⟨a, o1, k, w⟩ : Ans α).good := ⟨hk.1, fun p hp => hg.2 p (List.mem_append_left _ hp)⟩
      have g2 : (⟨b, o2, k', w'⟩ : Ans β).good := ⟨hk.2, fun p hp => hg.2 p (List.mem_append_right _ hp)⟩
      exact hf a (hx o ⟨a, o1, k, w⟩ h1 g1) o1 ⟨b, o2, k', w'⟩ h2 g2
theorem Sat.map {x : M α} {f : α → β} {S : β → Prop} (hx : Sat x fun a => S (f a)) : Sat (x.map f) S := by
  intro o r he hg
  unfold M.map at he
  split at he
  · cases he
  · rename_i a o1 k w h1
    simp only [Option.some.injEq] at he
    subst he
    exact hx _ _ h1 hg
theorem Sat.lift {x : Option α} {R : α → Prop} (h : ∀ a, x = some a → R a) : Sat (Ex.lift x) R := by
  cases x with
  | none => exact Sat.stop
  | some a => exact Sat.ret a (h a rfl)
theorem Sat.chk {b : Bool} {R : Unit → Prop} (h : b = true → R ()) : Sat (Ex.chk b) R := by
  intro o r he hg
  unfold Ex.chk at he
  split at he
  · cases he
    exact h hg.1
  · cases he
    exact h (hg.2 _ (List.mem_singleton.2 rfl))
  · cases he
  · cases he
    exact h hg.1
theorem Sat.ask {b : Bool} {R : Bool → Prop} (h : R b) : Sat (Ex.ask b) R := by
  intro o r he hg
  unfold Ex.ask at he
  split at he
  · cases he; exact h
  · cases he
    have : b = _ := hg.2 _ (List.mem_singleton.2 rfl)
    subst this
    exact h
  · cases he
  · cases he; exact h
theorem Sat.see {v : Value} : Sat (Ex.see v) fun u => u = v := by
  intro o r he hg
  unfold Ex.see at he
  split at he
  · cases he; rfl
  · cases he
    have : v = _ := hg.2 _ (List.mem_singleton.2 rfl)
    exact this.symm
  · cases he
  · cases he; rfl
end
theorem Sat.bind_lift {α β : Type} {x : Option α} {f : α → M β} {S : β → Prop} (hf : ∀ a, x = some a → Sat (f a) S) : Sat ((Ex.lift x).bind f) S := Sat.bind (R := fun a => x = some a) (Sat.lift fun _ h => h) hf
theorem Sat.bind_chk {β : Type} {b : Bool} {f : Unit → M β} {S : β → Prop} (hf : b = true → Sat (f ()) S) : Sat ((Ex.chk b).bind f) S := Sat.bind (R := fun _ => b = true) (Sat.chk fun h => h) fun _ h => hf h
theorem Sat.bind_ask {β : Type} {b : Bool} {f : Bool → M β} {S : β → Prop} (hf : Sat (f b) S) : Sat ((Ex.ask b).bind f) S := Sat.bind (R := fun d => d = b) (Sat.ask rfl) fun _ h => by rw [h]; exact hf
end Go.Proofs.Ythjlpklloioknaa.Ex
namespace Go.Proofs.Ythjlpklloioknaa.Ex
open Go
theorem Tr.get_nd (l r : Tr) (v : Option Value) (i : Nat) : (Tr.nd l v r).get i = if i = 0 then v else if i % 2 = 1 then l.get (i / 2) else r.get (i / 2 - 1) := by
  show (bif Nat.beq i 0 then v else bif Nat.beq (i % 2) 1 then l.get (i / 2) else r.get (i / 2 - 1)) = _
  by_cases h0 : i = 0
  · subst h0; rfl
  · have e0 : Nat.beq i 0 = false := (match i, h0 with | 0, h0 => absurd rfl h0 | n + 1, _ => rfl)
    rw [e0, if_neg h0]
    simp only [cond_false]
    by_cases h1 : i % 2 = 1
    · rw [h1, if_pos rfl]; rfl
    · have : i % 2 = 0 := by omega
      rw [this]; rfl
theorem Tr.set_nd (l r : Tr) (v u : Option Value) (i : Nat) : (Tr.nd l v r).set i u = if i = 0 then .nd l u r else if i % 2 = 1 then .nd (l.set (i / 2) u) v r else .nd l v (r.set (i / 2 - 1) u) := by
  show (bif Nat.beq i 0 then Tr.nd l u r else bif Nat.beq (i % 2) 1 then .nd (l.set (i / 2) u) v r else .nd l v (r.set (i / 2 - 1) u)) = _
  by_cases h0 : i = 0
  · subst h0; rfl
  · have e0 : Nat.beq i 0 = false := (match i, h0 with | 0, h0 => absurd rfl h0 | n + 1, _ => rfl)
    rw [e0, if_neg h0]
    simp only [cond_false]
    by_cases h1 : i % 2 = 1
    · rw [h1, if_pos rfl]; rfl
    · have : i % 2 = 0 := by omega
      rw [this]; rfl
theorem Tr.get_set_ne : ∀ (t : Tr) {i j : Nat} (v : Option Value), i ≠ j → (t.set i v).get j = t.get j
  | .nil, _, _, _, _ => rfl
  | .nd l x r, i, j, v, h => by
    rw [Tr.set_nd]
    by_cases h0 : i = 0
    · subst h0
      have j0 : j ≠ 0 := fun c => h c.symm
      rw [if_pos rfl, Tr.get_nd, Tr.get_nd, if_neg j0, if_neg j0]
    · rw [if_neg h0]
      by_cases h1 : i % 2 = 1
      · rw [if_pos h1, Tr.get_nd, Tr.get_nd]
        by_cases j0 : j = 0
        · rw [if_pos j0, if_pos j0]
        · rw [if_neg j0, if_neg j0]
          by_cases j1 : j % 2 = 1
          · rw [if_pos j1, if_pos j1, Tr.get_set_ne l v (by omega)]
          · rw [if_neg j1, if_neg j1]
      · rw [if_neg h1, Tr.get_nd, Tr.get_nd]
        by_cases j0 : j = 0
        · rw [if_pos j0, if_pos j0]
        · rw [if_neg j0, if_neg j0]
          by_cases j1 : j % 2 = 1
          · rw [if_pos j1, if_pos j1]
          · rw [if_neg j1, if_neg j1, Tr.get_set_ne r v (by omega)]
theorem Tr.get_set : ∀ (t : Tr) {i : Nat} {v : Option Value} {u : Value}, (t.set i v).get i = some u → v = some u
  | .nil, _, _, _, h => by cases h
  | .nd l x r, i, v, u, h => by
    rw [Tr.set_nd] at h
    by_cases h0 : i = 0
    · subst h0
      rw [if_pos rfl, Tr.get_nd, if_pos rfl] at h
      exact h
    · rw [if_neg h0] at h
      by_cases h1 : i % 2 = 1
      · rw [if_pos h1, Tr.get_nd, if_neg h0, if_pos h1] at h
        exact Tr.get_set l h
      · rw [if_neg h1, Tr.get_nd, if_neg h0, if_neg h1] at h
        exact Tr.get_set r h
theorem Tr.full_get : ∀ (n i : Nat), (Tr.full n).get i = none
  | 0, _ => rfl
  | n + 1, i => by
    show (Tr.nd (Tr.full n) none (Tr.full n)).get i = none
    rw [Tr.get_nd]
    split
    · rfl
    · split <;> exact Tr.full_get n _
theorem Fr.get_eq (fr : Fr) (i : Nat) : fr.get i = if i < fr.n then fr.t.get i else none := by
  unfold Fr.get
  by_cases h : i < fr.n
  · have : Nat.blt i fr.n = true := Nat.ble_eq_true_of_le h
    rw [this, if_pos h]; rfl
  · have : Nat.blt i fr.n = false := by
      rw [Bool.eq_false_iff]
      intro c
      exact h (Nat.le_of_ble_eq_true c)
    rw [this, if_neg h]; rfl
theorem Fr.empty_get (n i : Nat) : (Fr.empty n).get i = none := by
  rw [Fr.get_eq]
  split
  · exact Tr.full_get _ _
  · rfl
theorem Fr.set_n (fr : Fr) (i : Nat) (v : Option Value) : (fr.set i v).n = fr.n := rfl
theorem Fr.get_ne (fr : Fr) {i j : Nat} (v : Option Value) (h : i ≠ j) : (fr.set i v).get j = fr.get j := by
  rw [Fr.get_eq, Fr.get_eq, Fr.set_n]
  split
  · exact Tr.get_set_ne _ v h
  · rfl
theorem Fr.get_set (fr : Fr) {i : Nat} {v : Option Value} {u : Value} (h : (fr.set i v).get i = some u) : i < fr.n ∧ v = some u := by
  rw [Fr.get_eq, Fr.set_n] at h
  split at h
  · rename_i hi
    exact ⟨hi, Tr.get_set fr.t h⟩
  · cases h
theorem frOf_n (n : Nat) : ∀ l, (frOf n l).n = n
  | [] => rfl
  | (t, v) :: r => by
    show ((frOf n r).set t (some v)).n = n
    rw [Fr.set_n, frOf_n n r]
theorem frOf_get (n : Nat) : ∀ (l : List (Nat × Value)) (t : Nat) (v : Value), (frOf n l).get t = some v → (t, v) ∈ l
  | [], t, v, h => by
    rw [show frOf n [] = Fr.empty n from rfl, Fr.empty_get] at h
    cases h
  | (s, u) :: r, t, v, h => by
    have h' : ((frOf n r).set s (some u)).get t = some v := h
    by_cases hs : s = t
    · subst hs
      have h1 := (Fr.get_set _ h').2
      cases h1
      exact List.mem_cons_self
    · rw [Fr.get_ne _ _ hs] at h'
      exact List.mem_cons_of_mem _ (frOf_get n r t v h')
theorem frArgs_n (fr : Fr) : ∀ (i : Nat) (vs : List Value), (frArgs fr i vs).n = fr.n
  | _, [] => rfl
  | i, v :: vs => by
    show ((frArgs fr (i + 1) vs).set i (some v)).n = fr.n
    rw [Fr.set_n, frArgs_n fr (i + 1) vs]
theorem frArgs_get (fr : Fr) : ∀ (i : Nat) (vs : List Value) (t : Nat) (v : Value), (frArgs fr i vs).get t = some v → (i ≤ t ∧ vs[t - i]? = some v) ∨ fr.get t = some v
  | _, [], t, v, h => .inr h
  | i, u :: vs, t, v, h => by
    have h' : ((frArgs fr (i + 1) vs).set i (some u)).get t = some v := h
    have old : (frArgs fr (i + 1) vs).get t = some v → (i ≤ t ∧ (u :: vs)[t - i]? = some v) ∨ fr.get t = some v := fun h1 => by
      rcases frArgs_get fr (i + 1) vs t v h1 with ⟨h2, h3⟩ | h2
      · refine .inl ⟨by omega, ?_⟩
        have : t - i = (t - (i + 1)) + 1 := by omega
        rw [this]
        simpa using h3
      · exact .inr h2
    by_cases hs : i = t
    · subst hs
      exact .inl ⟨Nat.le_refl _, by simpa using (Fr.get_set _ h').2⟩
    · rw [Fr.get_ne _ _ hs] at h'
      exact old h'
end Go.Proofs.Ythjlpklloioknaa.Ex
namespace Go.Proofs.Ythjlpklloioknaa.Ex
open Go
set_option linter.unusedVariables false
set_option linter.unusedSimpArgs false
def Le (ν ν' : Nu) : Prop := ∀ id N, ν id = some N → ν' id = some N
theorem Le.refl (ν : Nu) : Le ν ν := fun _ _ h => h
theorem VR0.le {ν ν' : Nu} (h : Le ν ν') {v v' : Value} (hv : VR0 ν v v') : VR0 ν' v v' := by
  unfold VR0 at hv ⊢
  split
  · obtain ⟨N, h1, h2, h3⟩ := hv
    exact ⟨N, h _ _ h1, h2, h3⟩
  · obtain ⟨a', c', h1, h2, h3, h4⟩ := hv
    refine ⟨a', c', h1, h2, h3, fun hc => ?_⟩
    obtain ⟨N, k1, k2⟩ := h4 hc
    exact ⟨N, h _ _ k1, k2⟩
  all_goals first | exact hv | (exfalso; revert hv; split <;> first | exact id | (intro hv; simp_all))
theorem VR1.le {ν ν' : Nu} (h : Le ν ν') {v v' : Value} (hv : VR1 ν v v') : VR1 ν' v v' := by
  cases v with
  | func fn f c =>
    obtain ⟨f', c', h1, h2, h3⟩ := hv
    exact ⟨f', c', h1, h2.mono fun _ _ => VR0.le h, h3.mono fun _ _ => VR0.le h⟩
  | _ => simp only [VR1] at hv ⊢; exact VR0.le h hv
theorem VRC.le {ν ν' : Nu} (h : Le ν ν') {v v' : Value} (hv : VRC ν v v') : VRC ν' v v' := by
  cases v with
  | agg cs =>
    obtain ⟨c', h1, h2⟩ := hv
    exact ⟨c', h1, h2.mono fun _ _ => VR1.le h⟩
  | _ => simp only [VRC] at hv ⊢; exact VR1.le h hv
theorem VR.le {ν ν' : Nu} (h : Le ν ν') {v v' : Value} (hv : VR ν v v') : VR ν' v v' := by
  cases v with
  | tuple cs =>
    obtain ⟨c', h1, h2⟩ := hv
    exact ⟨c', h1, h2.mono fun _ _ => VRC.le h⟩
  | _ => simp only [VR] at hv ⊢; exact VRC.le h hv
theorem flat1_VR {ν : Nu} {v : Value} (h : flat1 v = true) (v' : Value) : VR1 ν v v' ↔ v' = v := by
  unfold flat1 at h
  split at h
  all_goals first | (exact Iff.rfl) | (simp at h; done) | skip
  all_goals
    simp only [Bool.and_eq_true, beq_iff_eq, Array.size_eq_zero_iff] at h
    obtain ⟨rfl, rfl⟩ := h
    constructor
    · rintro ⟨f', c', rfl, h1, h2⟩
      cases f' with
      | mk f' => cases c' with
        | mk c' =>
          cases h1
          cases h2
          rfl
    · rintro rfl
      exact ⟨_, _, rfl, .nil, .nil⟩
theorem flat_L2 {ν : Nu} {cs : List Value} (h : cs.all flat1 = true) {cs' : List Value} : L2 (VR1 ν) cs cs' ↔ cs' = cs := by
  induction cs generalizing cs' with
  | nil => exact ⟨fun h => by cases h; rfl, fun h => by subst h; exact .nil⟩
  | cons x cs ih =>
    simp only [List.all_cons, Bool.and_eq_true] at h
    constructor
    · intro hl
      cases hl with
      | cons h1 h2 => rw [(flat1_VR h.1 _).1 h1, (ih h.2).1 h2]
    · rintro rfl
      exact .cons ((flat1_VR h.1 _).2 rfl) ((ih h.2).2 rfl)
theorem flatC_VR {ν : Nu} {v : Value} (h : flatC v = true) (v' : Value) : VRC ν v v' ↔ v' = v := by
  cases v with
  | agg cs =>
    constructor
    · rintro ⟨cs', rfl, hl⟩
      rw [flat_L2 h] at hl
      cases cs'; cases cs; simp_all
    · rintro rfl
      exact ⟨_, rfl, (flat_L2 h).2 rfl⟩
  | _ => simp only [flatC] at h; simp only [VRC]; exact flat1_VR h v'
theorem flatC_L2 {ν : Nu} {cs : List Value} (h : cs.all flatC = true) {cs' : List Value} : L2 (VRC ν) cs cs' ↔ cs' = cs := by
  induction cs generalizing cs' with
  | nil => exact ⟨fun h => by cases h; rfl, fun h => by subst h; exact .nil⟩
  | cons x cs ih =>
    simp only [List.all_cons, Bool.and_eq_true] at h
    constructor
    · intro hl
      cases hl with
      | cons h1 h2 => rw [(flatC_VR h.1 _).1 h1, (ih h.2).1 h2]
    · rintro rfl
      exact .cons ((flatC_VR h.1 _).2 rfl) ((ih h.2).2 rfl)
theorem flat_VR {ν : Nu} {v : Value} (h : flat v = true) (v' : Value) : VR ν v v' ↔ v' = v := by
  cases v with
  | tuple cs =>
    constructor
    · rintro ⟨cs', rfl, hl⟩
      rw [flatC_L2 h] at hl
      cases cs'; cases cs; simp_all
    · rintro rfl
      exact ⟨_, rfl, (flatC_L2 h).2 rfl⟩
  | _ => simp only [flat] at h; simp only [VR]; exact flatC_VR h v'
theorem VR1.not_agg {ν : Nu} {v : Value} {cs : Array Value} (h : VR1 ν v (.agg cs)) : False := by
  cases v with
  | func fn f c => obtain ⟨_, _, hh, _⟩ := h; cases hh
  | pointer a => cases a with
    | none => simp [VR1, VR0] at h
    | some a => obtain ⟨_, _, _, hh⟩ := h; cases hh
  | slice a l c => cases a with
    | some a => obtain ⟨_, _, hh, _⟩ := h; cases hh
    | none => cases l <;> cases c <;> simp [VR1, VR0] at h
  | map r => cases r <;> simp [VR1, VR0] at h
  | _ => simp [VR1, VR0] at h
theorem cells_one {u : Value} (h : ∀ cs, u ≠ .agg cs) : u.cells = #[u] := by
  cases u with
  | agg cs => exact absurd rfl (h cs)
  | _ => rfl
theorem VRC.cells {ν : Nu} {v v' : Value} (h : VRC ν v v') : L2 (VR1 ν) v.cells.toList v'.cells.toList := by
  by_cases hv : ∃ cs, v = .agg cs
  · obtain ⟨cs, rfl⟩ := hv
    obtain ⟨cs', rfl, hl⟩ := h
    exact hl
  · have hv' : ∀ cs, v ≠ .agg cs := fun cs e => hv ⟨cs, e⟩
    have h1 : VR1 ν v v' := by
      cases v with
      | agg cs => exact absurd rfl (hv' cs)
      | _ => simp only [VRC] at h; exact h
    rw [cells_one hv', cells_one (u := v') (fun cs e => (e ▸ h1 : VR1 ν v (.agg cs)).not_agg)]
    exact .cons h1 .nil
theorem CR.le {P : Program} {ν ν' : Nu} {e : TypeId} (h : Le ν ν') {v v' : Value} (hv : CR P ν e v v') : CR P ν' e v v' := ⟨hv.1.le h, hv.2⟩
theorem RepBlk.le {P : Program} {ν ν' : Nu} {w w' : World} {id : Nat} {b : Blk} (h : Le ν ν') (hb : RepBlk P ν w id b) (hw : ∀ N, ν id = some N → b.live = true → w'.heap[N.g]? = w.heap[N.g]?)
    (hs : w.heap.size ≤ w'.heap.size) : RepBlk P ν' w' id b := by
  cases b with
  | dead => trivial
  | own e cs =>
    obtain ⟨g, cur, lo, hi, h1, h2, h3, h4, h5⟩ := hb
    exact ⟨g, cur, lo, hi, h _ _ h1, (hw _ h1 rfl).trans h2, h3, h4, h5.mono fun _ _ => CR.le h⟩
  | ro e cs =>
    obtain ⟨N, h1, h3, h4, cs', h5, h6⟩ := hb
    refine ⟨N, h _ _ h1, h3, Nat.lt_of_lt_of_le h4 hs, cs', h5.mono fun _ _ => CR.le h, fun i v hv => ?_⟩
    have := h6 i v hv
    unfold World.cell? at this ⊢
    have e : w'.heap[(N.at i).block]? = w.heap[(N.at i).block]? := hw _ h1 rfl
    rw [e]
    exact this
theorem RepBlk.read {P : Program} {ν : Nu} {w : World} {id : Nat} {hp : Hp} {cs : List Value} (hb : RepBlk P ν w id (hp.getD id .dead)) (hc : cellsAt hp id = some cs) :
    ∃ N cs', ν id = some N ∧ L2 (VR1 ν) cs cs' ∧ ∀ i v, cs'[i]? = some v → w.cell? (N.at i) = some v := by
  unfold cellsAt at hc
  split at hc
  · rename_i e cs0 he
    cases hc
    rw [he] at hb
    obtain ⟨g, cur, lo, hi, h1, h2, h3, h4, h5⟩ := hb
    refine ⟨_, _, h1, h5.mono fun _ _ h => h.1, fun i v hv => ?_⟩
    have hv' : cur[i]? = some v := by
      rw [List.getElem?_take] at hv
      split at hv
      · simpa using hv
      · cases hv
    simp [World.cell?, Nm.at, h2, hv']
  · rename_i e cs0 he
    cases hc
    rw [he] at hb
    obtain ⟨N, h1, h3, h4, cs', h5, h6⟩ := hb
    exact ⟨N, cs', h1, h5.mono fun _ _ h => h.1, h6⟩
  · cases hc
end Go.Proofs.Ythjlpklloioknaa.Ex
namespace Go.Proofs.Ythjlpklloioknaa.Ex
open Go
set_option linter.unusedVariables false
set_option linter.unusedSimpArgs false
/-- What an operation may do to the abstract heap. -/
structure Shape (F : List Nat) (hp : Hp) (r : Res) : Prop where
  len : hp.length ≤ r.hp.length
  wr : ∀ id, id ∈ r.wr → id ∈ F ∧ id < hp.length
  own : ∀ id, id ∈ r.wr → (hp.getD id .dead).isOwn = true
  keep : ∀ id, id < hp.length → ¬ id ∈ r.wr → r.hp.getD id .dead = hp.getD id .dead
structure Pre (P : Program) (F : List Nat) (ν : Nu) (hp : Hp) (w : World) : Prop where
  dom : ∀ id, hp.length ≤ id → ν id = none
  blk : ∀ id, id ∈ F → RepBlk P ν w id (hp.getD id .dead)
  sep : ∀ i j N K, i ≠ j → i ∈ F → j ∈ F → (hp.getD i .dead).isOwn = true → (hp.getD j .dead).live = true → ν i = some N → ν j = some K → N.g ≠ K.g
structure Post (P : Program) (F : List Nat) (ν : Nu) (hp : Hp) (w : World) (r : Res) (ν' : Nu) (w' : World) : Prop where
  same : ∀ id, id < hp.length → ν' id = ν id
  dom : ∀ id, r.hp.length ≤ id → ν' id = none
  blk : ∀ id, id ∈ F ∨ hp.length ≤ id → RepBlk P ν' w' id (r.hp.getD id .dead)
  sep : ∀ i j N K, i ≠ j → (i ∈ F ∨ hp.length ≤ i) → (j ∈ F ∨ hp.length ≤ j) → (r.hp.getD i .dead).isOwn = true → (r.hp.getD j .dead).live = true → ν' i = some N → ν' j = some K → N.g ≠ K.g
  os : w'.os = w.os
  tape : w'.tape = w.tape
  output : w'.output = w.output
  size : w.heap.size ≤ w'.heap.size
  frame : ∀ g, g < w.heap.size → (∀ id N, id ∈ r.wr → ν id = some N → N.g ≠ g) → w'.heap[g]? = w.heap[g]?
  fresh : ∀ id N, hp.length ≤ id → (r.hp.getD id .dead).live = true → ν' id = some N → w.heap.size ≤ N.g ∨ ∃ j K, j ∈ r.wr ∧ ν j = some K ∧ K.g = N.g
def Env (ν : Nu) (fr : Fr) (a : Act) (o : Oper) : Prop := ∀ x, x ∈ o.op.operands → ∀ v, val fr x = some v → VR ν v (a.eval x)
def OpOk (P : Program) (F : List Nat) (fr : Fr) (hp : Hp) (o : Oper) (r : Res) : Prop :=
  Shape F hp r ∧ ∀ ν (a : Act) w, Env ν fr a o → Pre P F ν hp w → ∀ (next : Act → World → Prop) (Q : Exit → Act → World → Prop),
    (∀ ν' v' w', Post P F ν hp w r ν' w' → VR ν' r.v v' → next (a.put o.dst v') w') → o.wp P a w next Q
section
variable {P : Program} {F : List Nat} {fr : Fr} {hp : Hp} {o : Oper}
theorem getD_out {id : Nat} (h : hp.length ≤ id) : hp.getD id .dead = .dead := by
  rw [List.getD_eq_getElem?_getD, List.getElem?_eq_none h]
  rfl
theorem Shape.same (v : Value) : Shape F hp ⟨v, hp, []⟩ := ⟨Nat.le_refl _, fun _ h => by simp at h, fun _ h => by simp at h, fun _ _ _ => rfl⟩
theorem Post.refl_ {ν : Nu} {w : World} (h : Pre P F ν hp w) (v : Value) : Post P F ν hp w ⟨v, hp, []⟩ ν w where
  same := fun _ _ => rfl
  dom := h.dom
  blk := fun id hid => by
    rcases hid with h1 | h1
    · exact h.blk id h1
    · show RepBlk P ν w id (hp.getD id .dead)
      rw [getD_out h1]
      trivial
  sep := fun i j N K hne hi hj ho hl h1 h2 => by
    rcases hi with hi | hi
    · rcases hj with hj | hj
      · exact h.sep i j N K hne hi hj ho hl h1 h2
      · change (hp.getD j .dead).live = true at hl
        rw [getD_out hj] at hl
        cases hl
    · change (hp.getD i .dead).isOwn = true at ho
      rw [getD_out hi] at ho
      cases ho
  os := rfl
  tape := rfl
  output := rfl
  size := Nat.le_refl _
  frame := fun _ _ _ => rfl
  fresh := fun id N hid hl _ => by
    change (hp.getD id .dead).live = true at hl
    rw [getD_out hid] at hl
    cases hl
theorem wp_value {a : Act} {w w' : World} {v' : Value} {next : Act → World → Prop} {Q : Exit → Act → World → Prop} (h : (execOp a.eval o).run P w = .ok (.value v') w') (hn : next (a.put o.dst v') w') : o.wp P a w next Q := by
  unfold Oper.wp
  rw [h]
  exact hn
theorem wp_skip_ {a : Act} {w w' : World} {next : Act → World → Prop} {Q : Exit → Act → World → Prop} (h : (execOp a.eval o).run P w = .ok .skip w') (hn : next (a.put o.dst undef) w') : o.wp P a w next Q := by
  unfold Oper.wp
  rw [h]
  exact hn
theorem OpOk.pure {v : Value} (h : ∀ ν (a : Act) w, Env ν fr a o → Pre P F ν hp w → ∃ v', (execOp a.eval o).run P w = .ok (.value v') w ∧ VR ν v v') : OpOk P F fr hp o ⟨v, hp, []⟩ := by
  refine ⟨Shape.same v, fun ν a w he hp' next Q hn => ?_⟩
  obtain ⟨v', h1, h2⟩ := h ν a w he hp'
  exact wp_value h1 (hn ν v' w (Post.refl_ hp' v) h2)
theorem run_sz {t : TypeId} {n : Nat} (h : sz P t = some n) (w : World) : (sizeOf t).run P w = .ok n w := by
  unfold sz at h
  cases hi : P.info? t with
  | none => rw [hi] at h; cases h
  | some i => rw [hi] at h; cases h; simp [sizeOf, typeInfo, hi]
theorem run_zeroT {t : TypeId} {z : Value} (h : zeroT P t = some z) (w : World) : (zeroValue t).run P w = .ok z w := by
  unfold zeroT at h
  cases hi : P.info? t with
  | none => rw [hi] at h; cases h
  | some i =>
    rw [hi] at h
    change i.zero = some z at h
    simp [zeroValue, typeInfo, hi, h]
theorem run_und {t : TypeId} {d : TypeDesc} (h : P.underlying t = some d) (w : World) : (underlying t).run P w = .ok d w := by simp [underlying, h]
theorem run_aggT {t : TypeId} {g : Bool} (h : aggT P t = some g) (w : World) : (isAgg t).run P w = .ok g w := by
  unfold aggT at h
  cases hu : P.underlying t with
  | none => rw [hu] at h; cases h
  | some d =>
    rw [hu] at h
    cases h
    simp only [isAgg, Sem.run_bind, run_und hu, Result.andThen_ok]
    cases d <;> rfl
theorem VR.int {ν : Nu} {k : IntKind} {n : Int} {v' : Value} (h : VR ν (.int k n) v') : v' = .int k n := h
theorem VR.bool {ν : Nu} {b : Bool} {v' : Value} (h : VR ν (.bool b) v') : v' = .bool b := h
theorem VR.str {ν : Nu} {s : ByteArray} {v' : Value} (h : VR ν (.string s) v') : v' = .string s := h
theorem VR.ptr {ν : Nu} {b o : Nat} {v' : Value} (h : VR ν (.pointer (some ⟨b, o, none⟩)) v') : ∃ N, ν b = some N ∧ v' = .pointer (some (N.at o)) := by
  obtain ⟨N, h1, _, h2⟩ := h
  exact ⟨N, h1, h2⟩
theorem VR.of1 {ν : Nu} {v v' : Value} (h : VR1 ν v v') : VR ν v v' := by
  cases v with
  | agg cs => simp [VR1, VR0] at h
  | tuple cs => simp [VR1, VR0] at h
  | _ => simp only [VR, VRC]; exact h
theorem VR.ofC {ν : Nu} {v v' : Value} (h : VRC ν v v') : VR ν v v' := by
  cases v with
  | tuple cs => simp [VRC, VR1, VR0] at h
  | _ => simp only [VR]; exact h
theorem at_add (N : Nm) (i j : Nat) : (N.at i).add j = N.at (i + j) := by
  unfold Addr.add Nm.at
  split
  · rename_i h
    subst h
    rfl
  · simp only [Addr.mk.injEq, and_true, true_and]
    omega
theorem Sat.asT {t : TypeId} {v : Value} : Sat (asT P t v) fun u => u = v := by
  unfold Ex.asT
  split
  · refine Sat.bind_chk fun h => Sat.ret _ ?_
    unfold isInt at h
    split at h
    · simp only [beq_iff_eq] at h
      subst h
      rfl
    · cases h
  · refine Sat.bind_chk fun h => Sat.ret _ ?_
    unfold isBool at h
    split at h
    · rfl
    · cases h
  · refine Sat.bind_chk fun h => Sat.ret _ ?_
    unfold isStr at h
    split at h
    · rfl
    · cases h
  · exact Sat.ret _ rfl
theorem L2.slice {α β : Type} {R : α → β → Prop} {l : List α} {m : List β} (h : L2 R l m) (o n : Nat) : L2 R ((l.drop o).take n) ((m.drop o).take n) := (h.drop o).take n
theorem load_ok {t : TypeId} {b o : Nat} {cs : List Value} {ν : Nu} {w : World} {g : Bool} (hb : RepBlk P ν w b (hp.getD b .dead)) (hc : cellsAt hp b = some cs) (hg : aggT P t = some g) :
    ∃ N, ν b = some N ∧
    (g = true → ∀ n, sz P t = some n → o + n ≤ cs.length → ∃ v', (loadVar t (N.at o)).run P w = .ok v' w ∧ VR ν (.agg ((cs.drop o).take n).toArray) v') ∧
    (g = false → o < cs.length → ∃ v', (loadVar t (N.at o)).run P w = .ok v' w ∧ VR ν (cs.getD o undef) v') := by
  obtain ⟨N, cs', h1, h3, h4⟩ := hb.read hc
  refine ⟨N, h1, fun e n hn hle => ?_, fun e hlt => ?_⟩
  · subst e
    have hl : ((cs'.drop o).take n).length = n := by
      rw [List.length_take, List.length_drop, ← h3.len]
      omega
    have hrow : ∀ j v, ((cs'.drop o).take n)[j]? = some v → w.cell? ((N.at o).add j) = some v := by
      intro j v hj
      rw [at_add]
      refine h4 (o + j) v ?_
      rw [List.getElem?_take] at hj
      split at hj
      · rwa [List.getElem?_drop] at hj
      · cases hj
    have hr := run_loadCells_list (P := P) (w := w) (N.at o) _ hrow
    rw [hl] at hr
    refine ⟨.agg ((cs'.drop o).take n).toArray, ?_, ?_⟩
    · simp only [loadVar, Sem.run_bind, run_aggT hg, Result.andThen_ok, if_true, run_sz hn, hr, Sem.run_pure]
    · exact ⟨_, rfl, by simpa using h3.slice o n⟩
  · subst e
    have hx : cs[o]? = some (cs.getD o undef) := by rw [List.getD_eq_getElem?_getD, List.getElem?_eq_getElem hlt]; rfl
    obtain ⟨v', hv', hr⟩ := h3.get o _ hx
    have hcell := h4 o v' hv'
    refine ⟨v', ?_, VR.of1 hr⟩
    simp only [loadVar, Sem.run_bind, run_aggT hg, Result.andThen_ok, Bool.false_eq_true, if_false, run_load, hcell]
theorem load_sat {x : Operand} {t : TypeId} {v : Value} (ho : o.op = .load t x) (hv : val fr x = some v) (hF : ∀ id, id ∈ idsV v → id ∈ F) : Sat ((loadA P hp t v).map fun v => (⟨v, hp, []⟩ : Res)) (OpOk P F fr hp o) := by
  apply Sat.map
  unfold loadA
  split
  · rename_i b off
    have hbF : b ∈ F := hF b (by simp [idsV, idsVC, idsV1])
    refine Sat.bind_lift fun cs hc => Sat.bind_lift fun g hg => ?_
    have key : ∀ u, (∀ ν (w : World), Pre P F ν hp w → ∀ N, ν b = some N → ∃ v', (loadVar t (N.at off)).run P w = .ok v' w ∧ VR ν u v') → OpOk P F fr hp o ⟨u, hp, []⟩ := by
      intro u hu
      refine OpOk.pure fun ν a w he hpre => ?_
      obtain ⟨N, h1, h2⟩ := VR.ptr (he x (by rw [ho]; simp [Op.operands]) _ hv)
      obtain ⟨v', h3, h4⟩ := hu ν w hpre N h1
      refine ⟨v', ?_, h4⟩
      simp only [execOp, ho, h2, Instr.loadAt, Instr.sureAddr, Sem.run_bind, Sem.run_pure, Result.andThen_ok, h3]
    cases g with
    | true =>
      rw [if_pos rfl]
      refine Sat.bind_lift fun n hn => Sat.bind_chk fun hle => Sat.ret _ (key _ fun ν w hpre N h1 => ?_)
      obtain ⟨N', h1', h2, _⟩ := load_ok (o := off) (hpre.blk b hbF) hc hg
      rw [h1] at h1'
      cases h1'
      exact h2 rfl n hn (by simpa using hle)
    | false =>
      rw [if_neg Bool.false_ne_true]
      refine Sat.bind_chk fun hlt => Sat.asT.mono fun u hu => key _ fun ν w hpre N h1 => ?_
      subst hu
      obtain ⟨N', h1', _, h2⟩ := load_ok (o := off) (hpre.blk b hbF) hc hg
      rw [h1] at h1'
      cases h1'
      exact h2 rfl (by simpa using hlt)
  · exact Sat.stop
end
end Go.Proofs.Ythjlpklloioknaa.Ex
namespace Go.Proofs.Ythjlpklloioknaa.Ex
open Go
set_option linter.unusedVariables false
set_option linter.unusedSimpArgs false
section
variable {P : Program} {F : List Nat} {fr : Fr} {hp : Hp} {o : Oper}
theorem pureRun_run {α : Type} {s : Sem α} {a : α} : pureRun P s = some a → ∀ w, s.run P w = .ok a w := by
  induction s with
  | pure b => intro h w; cases h; rfl
  | program k ih => intro h w; exact ih P h w
  | mark m k ih => intro h w; exact ih h w
  | _ => intro h w; cases h
theorem val_eval {ν : Nu} {a : Act} {x : Operand} {v : Value} (h : FrRel ν fr a.tmps) (hv : val fr x = some v) : VR ν v (a.eval x) := by
  cases x with
  | tmp t =>
    obtain ⟨v', h1, h2⟩ := h.2 t v hv
    have : a.eval (.tmp t) = v' := by simp [Act.eval, h1]
    rw [this]
    exact h2
  | const c =>
    simp only [val] at hv
    split at hv
    · rename_i hf
      cases hv
      exact (flat_VR hf _).2 rfl
    · cases hv
  | func f => cases hv; exact ⟨#[], #[], rfl, .nil, .nil⟩
  | global g => cases hv
theorem vals_mem : ∀ {xs : List Operand} {vs : List Value}, vals fr xs = some vs → ∀ x, x ∈ xs → ∃ v, v ∈ vs ∧ val fr x = some v
  | [], _, _, x, hx => by simp at hx
  | y :: ys, vs, h, x, hx => by
    simp only [vals] at h
    cases hy : val fr y with
    | none => rw [hy] at h; cases h
    | some v =>
      rw [hy] at h
      change (vals fr ys).bind (fun vs => some (v :: vs)) = some vs at h
      cases hys : vals fr ys with
      | none => rw [hys] at h; cases h
      | some us =>
        rw [hys] at h
        cases h
        rcases List.mem_cons.1 hx with rfl | hx
        · exact ⟨v, List.mem_cons_self .., hy⟩
        · obtain ⟨u, h1, h2⟩ := vals_mem hys x hx
          exact ⟨u, List.mem_cons_of_mem _ h1, h2⟩
theorem vals_L2 {ν : Nu} {a : Act} : ∀ {xs : List Operand} {vs : List Value}, vals fr xs = some vs → (∀ x, x ∈ xs → ∀ v, val fr x = some v → VR ν v (a.eval x)) → L2 (VR ν) vs (xs.map a.eval)
  | [], vs, h, _ => by cases h; exact .nil
  | y :: ys, vs, h, he => by
    simp only [vals] at h
    cases hy : val fr y with
    | none => rw [hy] at h; cases h
    | some v =>
      rw [hy] at h
      change (vals fr ys).bind (fun vs => some (v :: vs)) = some vs at h
      cases hys : vals fr ys with
      | none => rw [hys] at h; cases h
      | some us =>
        rw [hys] at h
        cases h
        exact .cons (he y (List.mem_cons_self ..) v hy) (vals_L2 hys fun x hx => he x (List.mem_cons_of_mem _ hx))
theorem plain_ok {v : Value} (h : plainA P fr o = some v) {ν : Nu} {a : Act} (he : Env ν fr a o) (w : World) : (execOp a.eval o).run P w = .ok (.value v) w ∧ VR ν v v := by
  have main : (∀ cs b, o.op ≠ .select cs b) → ((vals fr o.op.operands.toList).bind fun vs => if vs.all flat = true then (pureRun P (execOp (envOf fr) o)).bind fun | .value v => if flat v = true then some v else none | _ => none else none) = some v →
      (execOp a.eval o).run P w = .ok (.value v) w ∧ VR ν v v := by
    intro hs h
    cases hvs : vals fr o.op.operands.toList with
    | none => rw [hvs] at h; cases h
    | some vs =>
      rw [hvs] at h
      simp only [Option.bind_some] at h
      split at h
      · rename_i hfl
        cases hp' : pureRun P (execOp (envOf fr) o) with
        | none => rw [hp'] at h; cases h
        | some n =>
          rw [hp'] at h
          simp only [Option.bind_some] at h
          have hcong : execOp a.eval o = execOp (envOf fr) o := execOp_congr o hs fun x hx => by
            obtain ⟨u, h1, h2⟩ := vals_mem hvs x (by simpa using hx)
            have hu : flat u = true := List.all_eq_true.1 hfl u h1
            rw [(flat_VR hu _).1 (he x hx u h2)]
            simp [envOf, h2]
          rw [hcong, pureRun_run hp']
          cases n with
          | value u =>
            simp only at h
            split at h
            · rename_i hf
              cases h
              exact ⟨rfl, (flat_VR hf _).2 rfl⟩
            · cases h
          | _ => cases h
      · cases h
  unfold plainA at h
  split at h
  · cases h
  · rename_i hs
    exact main (fun cs b e => hs _ _ e) h
theorem plain_sat : Sat ((lift (plainA P fr o)).map fun v => (⟨v, hp, []⟩ : Res)) (OpOk P F fr hp o) :=
  Sat.map (Sat.lift fun v hv => OpOk.pure fun ν a w he _ => ⟨v, plain_ok hv he w⟩)
theorem move_sat {x : Operand} (ho : o.op = .move x ∨ o.op = .assign x) : Sat ((lift (val fr x)).map fun v => (⟨v, hp, []⟩ : Res)) (OpOk P F fr hp o) :=
  Sat.map (Sat.lift fun v hv => OpOk.pure fun ν a w he _ => by
    rcases ho with ho | ho
    · exact ⟨a.eval x, by simp [execOp, ho], he x (by simp [ho, Op.operands]) v hv⟩
    · exact ⟨a.eval x, by simp [execOp, ho], he x (by simp [ho, Op.operands]) v hv⟩)
theorem pick_sat {c x y : Operand} (ho : o.op = .pick c x y) : Sat ((lift (val fr c)).bind fun c => match c with
      | .bool c => (ask c).bind fun c => if c = true then (lift (val fr x)).map fun v => (⟨v, hp, []⟩ : Res) else (lift (val fr y)).map fun v => (⟨v, hp, []⟩ : Res)
      | _ => stop) (OpOk P F fr hp o) := by
  refine Sat.bind_lift fun v hv => ?_
  split
  · rename_i b
    refine Sat.bind_ask ?_
    have hc : ∀ ν (a : Act), Env ν fr a o → a.eval c = .bool b := fun ν a he => he c (by simp [ho, Op.operands]) _ hv
    cases b with
    | true =>
      rw [if_pos rfl]
      exact Sat.map (Sat.lift fun v hv => OpOk.pure fun ν a w he _ => ⟨a.eval x, by simp [execOp, ho, hc ν a he, asBool], he x (by simp [ho, Op.operands]) v hv⟩)
    | false =>
      rw [if_neg Bool.false_ne_true]
      exact Sat.map (Sat.lift fun v hv => OpOk.pure fun ν a w he _ => ⟨a.eval y, by simp [execOp, ho, hc ν a he, asBool], he y (by simp [ho, Op.operands]) v hv⟩)
  · exact Sat.stop
theorem nil_sat {x : Operand} (ho : o.op = .nilCheck x) : Sat ((lift (val fr x)).bind fun v => match v with | .pointer (some a) => ret (⟨.pointer (some a), hp, []⟩ : Res) | _ => stop) (OpOk P F fr hp o) := by
  refine Sat.bind_lift fun v hv => ?_
  split
  · rename_i ad
    refine Sat.ret _ (OpOk.pure fun ν a w he _ => ?_)
    have h := he x (by simp [ho, Op.operands]) _ hv
    refine ⟨a.eval x, ?_, h⟩
    obtain ⟨N, _, _, h3⟩ := h
    simp [execOp, ho, h3]
  · exact Sat.stop
theorem field_sat {s : TypeId} {x : Operand} {f : Nat} (ho : o.op = .fieldAddr s x f) : Sat ((lift (val fr x)).bind fun v => (lift (fieldA P s v f)).map fun v => (⟨v, hp, []⟩ : Res)) (OpOk P F fr hp o) := by
  refine Sat.bind_lift fun v hv => Sat.map (Sat.lift fun u hu => OpOk.pure fun ν a w he _ => ?_)
  unfold fieldA at hu
  split at hu
  · rename_i b off fs hs
    obtain ⟨N, h1, h2⟩ := VR.ptr (he x (by simp [ho, Op.operands]) _ hv)
    cases hg : fs[f]? with
    | none => rw [hg] at hu; cases hu
    | some g =>
      rw [hg] at hu
      simp only [Option.bind_some] at hu
      cases hn : sz P g.type with
      | none => rw [hn] at hu; cases hu
      | some n =>
        rw [hn] at hu
        simp only [Option.bind_some] at hu
        split at hu
        · cases hu
        · rename_i h0
          cases hu
          refine ⟨.pointer (some (N.at (off + g.offset))), ?_, ⟨N, h1, rfl, rfl⟩⟩
          simp [execOp, ho, h2, Instr.fieldAt, run_und hs, hg, Instr.sureAddr, fieldPlace, run_sz hn, h0, at_add]
  · cases hu
theorem index_run {t : TypeId} {d : TypeDesc} (hd : P.underlying t = some d) {x : Value} {k : IntKind} {i : Int} {base : Addr} {len : Nat} {e : TypeId} {n : Nat} (hn : sz P e = some n) (h0 : 0 ≤ i) (h1 : i < (len : Int))
    (hx : (∃ N : Nat, d = .array N e ∧ x = .pointer (some base) ∧ len = N) ∨ (∃ c, d = .slice e ∧ x = .slice (some base) len c)) (w : World) :
    (Instr.indexAt t x (.int k i)).run P w = .ok (.pointer (some (base.add (i.toNat * n)))) w := by
  rcases hx with ⟨N, rfl, rfl, rfl⟩ | ⟨c, rfl, rfl⟩
  · simp [Instr.indexAt, asIntOf, run_und hd, Instr.sureAddr, h0, h1, run_sz hn]
  · simp [Instr.indexAt, asIntOf, run_und hd, h0, h1, run_sz hn]
theorem index_sat {t : TypeId} {x i : Operand} (ho : o.op = .indexAddr t x i) : Sat ((lift (val fr x)).bind fun v => (lift (val fr i)).bind fun i => (indexA P t v i).map fun v => (⟨v, hp, []⟩ : Res)) (OpOk P F fr hp o) := by
  refine Sat.bind_lift fun v hv => Sat.bind_lift fun iv hi => Sat.map ?_
  unfold indexA
  split
  · rename_i len e b off k i0 hd
    refine Sat.bind_lift fun n hn => Sat.bind_chk fun hin => Sat.ret _ (OpOk.pure fun ν a w he _ => ?_)
    obtain ⟨N, h1, h2⟩ := VR.ptr (he x (by simp [ho, Op.operands]) _ hv)
    have h3 : a.eval i = .int k i0 := he i (by simp [ho, Op.operands]) _ hi
    simp only [inside, Bool.and_eq_true, decide_eq_true_eq] at hin
    refine ⟨.pointer (some (N.at (off + i0.toNat * n))), ?_, ⟨N, h1, rfl, rfl⟩⟩
    have := index_run (P := P) hd (x := .pointer (some (N.at off))) (k := k) hn hin.1 hin.2 (.inl ⟨len, rfl, rfl, rfl⟩) w
    simp [execOp, ho, h2, h3, this, at_add]
  · rename_i e b off len c k i0 hd
    refine Sat.bind_lift fun n hn => Sat.bind_chk fun hin => Sat.ret _ (OpOk.pure fun ν a w he _ => ?_)
    obtain ⟨a', cap', h1, h2, h4, h5⟩ := he x (by simp [ho, Op.operands]) _ hv
    have h3 : a.eval i = .int k i0 := he i (by simp [ho, Op.operands]) _ hi
    simp only [inside, Bool.and_eq_true, decide_eq_true_eq] at hin
    obtain ⟨N, h6, _, rfl, _⟩ := h5 (by omega)
    refine ⟨.pointer (some (N.at (off + i0.toNat * n))), ?_, ⟨N, h6, rfl, rfl⟩⟩
    have := index_run (P := P) hd (x := .slice (some (N.at off)) len cap') (k := k) hn hin.1 hin.2 (.inr ⟨cap', rfl, rfl⟩) w
    simp [execOp, ho, h1, h3, this, at_add]
  · exact Sat.stop
theorem VRC.agg {ν : Nu} {cs : Array Value} {v' : Value} (h : VR ν (.agg cs) v') : ∃ cs', v' = .agg cs' ∧ L2 (VR1 ν) cs.toList cs'.toList := h
theorem part_ok {t : TypeId} {cs cs' : Array Value} {off : Nat} {ν : Nu} (h : L2 (VR1 ν) cs.toList cs'.toList) {u : Value} (w : World) :
    (aggT P t = some true → ∀ n, sz P t = some n → ∃ v', (part t cs' off).run P w = .ok v' w ∧ VR ν (.agg (cs.extract off (off + n))) v') ∧
    (aggT P t = some false → off < cs.size → ∃ v', (part t cs' off).run P w = .ok v' w ∧ VR ν (cs.toList.getD off undef) v') := by
  refine ⟨fun hg n hn => ⟨.agg (cs'.extract off (off + n)), ?_, ⟨_, rfl, ?_⟩⟩, fun hg hlt => ?_⟩
  · simp [part, run_aggT hg, run_sz hn]
  · rw [Array.toList_extract, Array.toList_extract]
    unfold List.extract
    exact (h.drop off).take _
  · have hx : cs.toList[off]? = some (cs.toList.getD off undef) := by rw [List.getD_eq_getElem?_getD, List.getElem?_eq_getElem (by simpa using hlt)]; rfl
    obtain ⟨v', hv', hr⟩ := h.get off _ hx
    refine ⟨v', ?_, VR.of1 hr⟩
    have : cs'[off]? = some v' := by simpa using hv'
    simp [part, run_aggT hg, this]
theorem part_sat {t : TypeId} {cs : Array Value} {off : Nat} (hk : ∀ u, (∀ ν (a : Act) w, Env ν fr a o → ∀ cs', L2 (VR1 ν) cs.toList cs'.toList → ∃ v', (part t cs' off).run P w = .ok v' w ∧ VR ν u v') → OpOk P F fr hp o ⟨u, hp, []⟩) :
    Sat ((partA P t cs off).map fun v => (⟨v, hp, []⟩ : Res)) (OpOk P F fr hp o) := by
  apply Sat.map
  unfold partA
  refine Sat.bind_lift fun g hg => ?_
  cases g with
  | true =>
    rw [if_pos rfl]
    exact Sat.bind_lift fun n hn => Sat.bind_chk fun _ => Sat.ret _ (hk _ fun ν a w _ cs' h => (part_ok h (u := undef) w).1 hg n hn)
  | false =>
    rw [if_neg Bool.false_ne_true]
    refine Sat.bind_chk fun hlt => Sat.asT.mono fun u hu => ?_
    subst hu
    exact hk _ fun ν a w _ cs' h => (part_ok h (u := undef) w).2 hg (by simpa using hlt)
theorem fieldv_sat {t : TypeId} {x : Operand} {f : Nat} (ho : o.op = .field t x f) : Sat ((lift (val fr x)).bind fun v => match v, P.underlying t with
      | .agg cs, some (.struct fs) => (lift (fs[f]?)).bind fun g => (partA P g.type cs g.offset).map fun v => (⟨v, hp, []⟩ : Res)
      | _, _ => stop) (OpOk P F fr hp o) := by
  refine Sat.bind_lift fun v hv => ?_
  split
  · rename_i cs fs hd
    refine Sat.bind_lift fun g hg => part_sat fun u hu => OpOk.pure fun ν a w he _ => ?_
    obtain ⟨cs', h1, h2⟩ := VRC.agg (he x (by simp [ho, Op.operands]) _ hv)
    obtain ⟨v', h3, h4⟩ := hu ν a w he cs' h2
    exact ⟨v', by simp [execOp, ho, h1, Instr.field, run_und hd, hg, asAgg, h3], h4⟩
  · exact Sat.stop
theorem indexv_sat {t : TypeId} {x i : Operand} (ho : o.op = .index t x i) : Sat ((lift (val fr x)).bind fun v => (lift (val fr i)).bind fun i => match P.underlying t, v, i with
      | some (.array len e), .agg cs, .int _ i => (lift (sz P e)).bind fun n => (chk (inside i len)).bind fun _ => (partA P e cs (i.toNat * n)).map fun v => (⟨v, hp, []⟩ : Res)
      | some .string, .string s, .int _ i => (chk (inside i s.size)).bind fun _ => ret (⟨.int .u8 ((s.data.toList.getD i.toNat 0).toNat : Nat), hp, []⟩ : Res)
      | _, _, _ => stop) (OpOk P F fr hp o) := by
  refine Sat.bind_lift fun v hv => Sat.bind_lift fun iv hi => ?_
  split
  · rename_i len e cs k i0 hd
    refine Sat.bind_lift fun n hn => Sat.bind_chk fun hin => part_sat fun u hu => OpOk.pure fun ν a w he _ => ?_
    obtain ⟨cs', h1, h2⟩ := VRC.agg (he x (by simp [ho, Op.operands]) _ hv)
    have h3 : a.eval i = .int k i0 := he i (by simp [ho, Op.operands]) _ hi
    obtain ⟨v', h4, h5⟩ := hu ν a w he cs' h2
    simp only [inside, Bool.and_eq_true, decide_eq_true_eq] at hin
    exact ⟨v', by simp [execOp, ho, h1, h3, Instr.index, asIntOf, run_und hd, hin.1, hin.2, run_sz hn, h4], h5⟩
  · rename_i s k i0 hd
    refine Sat.bind_chk fun hin => Sat.ret _ (OpOk.pure fun ν a w he _ => ?_)
    have h1 : a.eval x = .string s := he x (by simp [ho, Op.operands]) _ hv
    have h3 : a.eval i = .int k i0 := he i (by simp [ho, Op.operands]) _ hi
    simp only [inside, Bool.and_eq_true, decide_eq_true_eq] at hin
    have hlt : i0.toNat < s.size := by omega
    have hb : s[i0.toNat]? = some (s[i0.toNat]'hlt) := by simp [hlt]
    have hbe : (s[i0.toNat]'hlt) = s.data.toList.getD i0.toNat 0 := by
      rw [List.getD_eq_getElem?_getD, List.getElem?_eq_getElem (by simpa using hlt)]
      rfl
    refine ⟨.int .u8 ((s.data.toList.getD i0.toNat 0).toNat : Nat), ?_, rfl⟩
    simp only [execOp, ho, h1, h3, Instr.index, asIntOf, Sem.run_bind, Sem.run_pure, Result.andThen_ok, run_und hd, if_pos hin.1, hb, hbe]
  · exact Sat.stop
end
end Go.Proofs.Ythjlpklloioknaa.Ex
namespace Go.Proofs.Ythjlpklloioknaa.Ex
open Go
set_option linter.unusedVariables false
set_option linter.unusedSimpArgs false
section
variable {P : Program} {F : List Nat} {fr : Fr} {hp : Hp} {o : Oper}
theorem bound_run {k : IntKind} {i : Int} {y : Nat} (h0 : 0 ≤ i) (h1 : i ≤ (y : Int)) (c : BoundsCode) (w : World) : (Instr.sliceBound (.int k i) y c).run P w = .ok i.toNat w := by
  simp [Instr.sliceBound, asIntOf, h0, h1]
theorem bounds_run {isS : Bool} {len cap' : Nat} {lo hi : Option Value} {h l : Nat}
    (hh : (hi = none ∧ h = len) ∨ ∃ k i, hi = some (.int k i) ∧ 0 ≤ i ∧ i ≤ (cap' : Int) ∧ h = i.toNat)
    (hl : (lo = none ∧ l = 0) ∨ ∃ k i, lo = some (.int k i) ∧ 0 ≤ i ∧ i ≤ (h : Int) ∧ l = i.toNat) (w : World) :
    (Instr.sliceBounds isS len cap' lo hi none).run P w = .ok (l, h, cap') w := by
  rcases hh with ⟨rfl, rfl⟩ | ⟨k, i, rfl, h0, h1, rfl⟩
  · rcases hl with ⟨rfl, rfl⟩ | ⟨k, i, rfl, h2, h3, rfl⟩
    · simp [Instr.sliceBounds]
    · simp [Instr.sliceBounds, bound_run h2 h3]
  · rcases hl with ⟨rfl, rfl⟩ | ⟨k', i', rfl, h2, h3, rfl⟩
    · simp [Instr.sliceBounds, bound_run h0 h1]
    · simp [Instr.sliceBounds, bound_run h0 h1, bound_run h2 h3]
theorem Sat.bound {y d : Nat} {x : Option Value} {β : Type} {f : Nat → M β} {S : β → Prop}
    (h : ∀ n, ((x = none ∧ n = d) ∨ ∃ k i, x = some (.int k i) ∧ 0 ≤ i ∧ i ≤ (y : Int) ∧ n = i.toNat) → Sat (f n) S) : Sat ((boundA y d x).bind f) S := by
  refine Sat.bind (R := fun n => (x = none ∧ n = d) ∨ ∃ k i, x = some (.int k i) ∧ 0 ≤ i ∧ i ≤ (y : Int) ∧ n = i.toNat) ?_ h
  unfold boundA
  split
  · exact Sat.ret _ (.inl ⟨rfl, rfl⟩)
  · rename_i k i
    refine Sat.bind_chk fun hc => Sat.ret _ (.inr ⟨k, i, rfl, ?_, ?_, rfl⟩)
    · simp only [upto, Bool.and_eq_true, decide_eq_true_eq] at hc; exact hc.1
    · simp only [upto, Bool.and_eq_true, decide_eq_true_eq] at hc; exact hc.2
  · exact Sat.stop
theorem opt_eval {ν : Nu} {a : Act} {x : Option Operand} {v : Option Value} (h : optV fr x = some v) (he : ∀ y, x = some y → ∀ u, val fr y = some u → VR ν u (a.eval y)) :
    ((v = none ∧ x.map a.eval = none) ∨ ∃ u u', v = some u ∧ x.map a.eval = some u' ∧ VR ν u u') := by
  cases x with
  | none => cases h; exact .inl ⟨rfl, rfl⟩
  | some y =>
    simp only [optV] at h
    cases hy : val fr y with
    | none => rw [hy] at h; cases h
    | some u => rw [hy] at h; cases h; exact .inr ⟨u, _, rfl, rfl, he y rfl u hy⟩
theorem bnd_same {ν : Nu} {v v' : Option Value} (h : (v = none ∧ v' = none) ∨ ∃ u u', v = some u ∧ v' = some u' ∧ VR ν u u') {n d : Nat} {y : Nat}
    (hb : (v = none ∧ n = d) ∨ ∃ k i, v = some (.int k i) ∧ 0 ≤ i ∧ i ≤ (y : Int) ∧ n = i.toNat) {y' : Nat} (hy : y ≤ y') :
    (v' = none ∧ n = d) ∨ ∃ k i, v' = some (.int k i) ∧ 0 ≤ i ∧ i ≤ (y' : Int) ∧ n = i.toNat := by
  rcases hb with ⟨rfl, rfl⟩ | ⟨k, i, rfl, h0, h1, rfl⟩
  · rcases h with ⟨_, rfl⟩ | ⟨u, u', hh, _⟩
    · exact .inl ⟨rfl, rfl⟩
    · cases hh
  · rcases h with ⟨hh, _⟩ | ⟨u, u', hh, rfl, hv⟩
    · cases hh
    · cases hh
      rw [VR.int hv]
      exact .inr ⟨k, i, rfl, h0, by omega, rfl⟩
theorem cut_sat {t : TypeId} {x : Operand} {lo hi : Option Operand} (ho : o.op = .slice t x lo hi none) (hF : ∀ v, val fr x = some v → ∀ id, id ∈ idsV v → id ∈ F) :
    Sat ((lift (val fr x)).bind fun v => (lift (optV fr lo)).bind fun lo => (lift (optV fr hi)).bind fun hi => (cutA P hp t v lo hi).map fun v => (⟨v, hp, []⟩ : Res)) (OpOk P F fr hp o) := by
  refine Sat.bind_lift fun v hv => Sat.bind_lift fun lv hlo => Sat.bind_lift fun hv2 hhi => Sat.map ?_
  have eL : ∀ ν (a : Act), Env ν fr a o → ((lv = none ∧ lo.map a.eval = none) ∨ ∃ u u', lv = some u ∧ lo.map a.eval = some u' ∧ VR ν u u') := fun ν a he => opt_eval hlo fun y hy u hu => he y (by simp [ho, Op.operands, hy]) u hu
  have eH : ∀ ν (a : Act), Env ν fr a o → ((hv2 = none ∧ hi.map a.eval = none) ∨ ∃ u u', hv2 = some u ∧ hi.map a.eval = some u' ∧ VR ν u u') := fun ν a he => opt_eval hhi fun y hy u hu => he y (by simp [ho, Op.operands, hy]) u hu
  unfold cutA
  split
  · rename_i s hd
    refine Sat.bound fun h hh => Sat.bound fun l hl => Sat.ret _ (OpOk.pure fun ν a w he _ => ⟨_, ?_, rfl⟩)
    have h1 : a.eval x = .string s := he x (by simp [ho, Op.operands]) _ hv
    have b := bounds_run (P := P) (isS := false) (len := s.size) (cap' := s.size) (bnd_same (eH ν a he) hh (Nat.le_refl _)) (bnd_same (eL ν a he) hl (Nat.le_refl _)) w
    simp [execOp, ho, h1, Instr.sliceAt, run_und hd, Instr.slice, b]
  · rename_i e b off len cap hd
    refine Sat.bound fun h hh => Sat.bound fun l hl => Sat.bind_lift fun n hn => Sat.bind_lift fun u hu => Sat.bind_chk fun hun => Sat.ret _ (OpOk.pure fun ν a w he hpre => ?_)
    obtain ⟨a', cap', h1, h2, h3, h4⟩ := he x (by simp [ho, Op.operands]) _ hv
    have bd := bounds_run (P := P) (isS := true) (len := len) (cap' := cap') (bnd_same (eH ν a he) hh h2) (bnd_same (eL ν a he) hl (Nat.le_refl _)) w
    refine ⟨.slice (some (if cap' = l then a' else a'.add (l * n))) (h - l) (cap' - l), ?_, ⟨_, _, rfl, ?_, ?_, ?_⟩⟩
    · simp only [execOp, ho, h1, Instr.sliceAt, Instr.slice, Sem.run_bind, run_und hd, Result.andThen_ok, Option.map_none, bd, run_sz hn, Sem.run_pure]
      split <;> rfl
    · omega
    · have : h ≤ cap' := by
        rcases hh with ⟨_, rfl⟩ | ⟨k, i, _, h0, h5, rfl⟩ <;> omega
      omega
    · intro hpos
      have hl' : l ≤ cap' := by omega
      obtain ⟨N, k1, k2, k3, k4⟩ := h4 (by omega)
      refine ⟨N, k1, rfl, ?_, ?_⟩
      · rw [if_neg (by omega), k3, at_add]
      · have hu2 : N.u = n := by
          have hb := hpre.blk b (hF _ hv b (by simp [idsV, idsVC, idsV1]))
          simp only [beq_iff_eq] at hun
          unfold unit at hu
          split at hu
          · rename_i e' cs' he'
            rw [he'] at hb
            obtain ⟨g, cur, lo', hi', m1, _⟩ := hb
            change ν b = some N at k1
            rw [k1] at m1
            cases m1
            rw [← hun, hu]
            rfl
          · rename_i e' cs' he'
            rw [he'] at hb
            obtain ⟨N', m1, m2, _⟩ := hb
            change ν b = some N at k1
            rw [k1] at m1
            cases m1
            rw [m2, ← hun, hu]
            rfl
          · cases hu
        show off + l * n + (cap' - l) * N.u = N.S
        rw [hu2] at k4 ⊢
        change off + cap' * n = N.S at k4
        rw [Nat.add_assoc, ← Nat.add_mul, show l + (cap' - l) = cap' by omega]
        exact k4
  · rename_i e hd
    refine Sat.bound fun h hh => Sat.bound fun l hl => Sat.bind_lift fun n hn => Sat.ret _ (OpOk.pure fun ν a w he _ => ⟨.slice none 0 0, ?_, rfl⟩)
    have h1 : a.eval x = .slice none 0 0 := he x (by simp [ho, Op.operands]) _ hv
    have hh0 : h = 0 := by rcases hh with ⟨_, rfl⟩ | ⟨k, i, _, h0, h5, rfl⟩ <;> omega
    subst hh0
    have hl0 : l = 0 := by rcases hl with ⟨_, rfl⟩ | ⟨k, i, _, h0, h5, rfl⟩ <;> omega
    subst hl0
    have bd := bounds_run (P := P) (isS := true) (len := 0) (cap' := 0) (bnd_same (eH ν a he) hh (Nat.le_refl _)) (bnd_same (eL ν a he) hl (Nat.le_refl _)) w
    simp [execOp, ho, h1, Instr.sliceAt, Instr.slice, run_und hd, bd, run_sz hn]
  · exact Sat.stop
theorem extract_sat {x : Operand} {i : Nat} (ho : o.op = .extract x i) : Sat ((lift (val fr x)).bind fun v => match v with | .tuple vs => (lift (vs[i]?)).map fun v => (⟨v, hp, []⟩ : Res) | _ => stop) (OpOk P F fr hp o) := by
  refine Sat.bind_lift fun v hv => ?_
  split
  · rename_i vs
    refine Sat.map (Sat.lift fun u hu => OpOk.pure fun ν a w he _ => ?_)
    obtain ⟨cs', h1, h2⟩ := (he x (by simp [ho, Op.operands]) _ hv : VR ν (.tuple vs) _)
    obtain ⟨v', h3, h4⟩ := h2.get i u (by simpa using hu)
    refine ⟨v', ?_, VR.ofC h4⟩
    have : cs'[i]? = some v' := by simpa using h3
    simp [execOp, ho, h1, Instr.extract, this]
  · exact Sat.stop
theorem VR.lvl0 {ν : Nu} {v v' : Value} (h : VR ν v v') (hl : lvl0 v = true) : VR0 ν v v' := by
  cases v with
  | agg cs => cases hl
  | tuple cs => cases hl
  | func fn f c => cases hl
  | _ => simp only [VR, VRC, VR1] at h; exact h
theorem L2.lvl0 {ν : Nu} {l m : List Value} (h : L2 (VR ν) l m) (hl : l.all Ex.lvl0 = true) : L2 (VR0 ν) l m := by
  induction h with
  | nil => exact .nil
  | cons h _ ih =>
    simp only [List.all_cons, Bool.and_eq_true] at hl
    exact .cons (h.lvl0 hl.1) (ih hl.2)
theorem func_sat {fn : Fn} {f c : Array Operand} (ho : o.op = .makeFunc fn f c) : Sat ((lift (vals fr f.toList)).bind fun f => (lift (vals fr c.toList)).bind fun c => (chk (f.all lvl0 && c.all lvl0)).bind fun _ => ret (⟨.func fn f.toArray c.toArray, hp, []⟩ : Res)) (OpOk P F fr hp o) := by
  refine Sat.bind_lift fun fv hf => Sat.bind_lift fun cv hc => Sat.bind_chk fun hl => Sat.ret _ (OpOk.pure fun ν a w he _ => ?_)
  simp only [Bool.and_eq_true] at hl
  have h1 := (vals_L2 (ν := ν) (a := a) hf fun x hx v hv => he x (by simp [ho, Op.operands]; exact .inl (by simpa using hx)) v hv).lvl0 hl.1
  have h2 := (vals_L2 (ν := ν) (a := a) hc fun x hx v hv => he x (by simp [ho, Op.operands]; exact .inr (by simpa using hx)) v hv).lvl0 hl.2
  refine ⟨.func fn (f.map a.eval) (c.map a.eval), by simp [execOp, ho, Instr.makeFunc], ⟨_, _, rfl, by simpa using h1, by simpa using h2⟩⟩
theorem put_L2 {R : Value → Value → Prop} : ∀ {vs vs' : List Value} {cs cs' : List Value} (o : Nat), L2 R vs vs' → L2 R cs cs' → L2 R (put cs o vs) (put cs' o vs')
  | _, _, _, _, _, .nil, h => h
  | _, _, _, _, o, .cons h1 h2, h => put_L2 (o + 1) h2 (h.set o h1)
theorem fold_put : ∀ (vs : List Value) (s off : Nat) (cells : Array Value), (((vs.zipIdx s).foldl (fun cs x => cs.setIfInBounds (off + x.2) x.1) cells)).toList = put cells.toList (off + s) vs
  | [], _, _, _ => rfl
  | v :: vs, s, off, cells => by
    rw [List.zipIdx_cons, List.foldl_cons, fold_put vs (s + 1) off, put]
    simp [Nat.add_assoc]
theorem fill_ok {ν : Nu} {pl : Nat → Option (Nat × Nat)} : ∀ {ps ps' : List (Nat × Value)} {cs cs' : List Value}, L2 (fun p q => p.1 = q.1 ∧ VRC ν p.2 q.2) ps ps' → L2 (VR1 ν) cs cs' →
    Sat (fillA pl cs ps) fun r => ∃ r', Instr.fill pl cs'.toArray ps' = some r' ∧ L2 (VR1 ν) r r'.toList
  | _, _, _, _, .nil, h => by
    unfold fillA
    exact Sat.ret _ ⟨_, rfl, by simpa using h⟩
  | (i, v) :: ps, (j, v') :: ps', cs, cs', .cons h1 h2, h => by
    obtain ⟨rfl, hv⟩ := h1
    unfold fillA
    refine Sat.bind_lift fun p hp' => Sat.bind_chk fun hc => ?_
    simp only [Bool.and_eq_true, beq_iff_eq, decide_eq_true_eq] at hc
    have hvc := hv.cells
    have hn : put cs p.1 v.cells.toList = put cs p.1 v.cells.toList := rfl
    refine (fill_ok (ν := ν) (pl := pl) h2 (put_L2 p.1 hvc h)).mono fun r hr => ?_
    obtain ⟨r', h3, h4⟩ := hr
    refine ⟨r', ?_, h4⟩
    have hs : v'.cells.size = v.cells.size := by have := hvc.len; simpa using this.symm
    have hl := h.len
    unfold Instr.fill
    rw [hp']
    simp only
    rw [if_neg (by simp; omega)]
    have e := fold_put v'.cells.toList 0 p.1 cs'.toArray
    rw [← h3]
    congr 1
    rw [← Array.foldl_toList, Array.toList_zipIdx]
    apply Array.toList_inj.1
    simpa using e
theorem parts_ok {ν : Nu} {a : Act} : ∀ {ps : List (Nat × Operand)} {vs : List (Nat × Value)}, parts fr ps = some vs → (∀ x, x ∈ ps.map (·.2) → ∀ v, val fr x = some v → VR ν v (a.eval x)) → vs.all (fun p => lvlC p.2) = true →
    L2 (fun p q => p.1 = q.1 ∧ VRC ν p.2 q.2) vs (ps.map fun p => (p.1, a.eval p.2))
  | [], _, h, _, _ => by cases h; exact .nil
  | (i, x) :: r, vs, h, he, hl => by
    simp only [parts] at h
    cases hx : val fr x with
    | none => rw [hx] at h; cases h
    | some v =>
      rw [hx] at h
      change (parts fr r).bind (fun vs => some ((i, v) :: vs)) = some vs at h
      cases hr : parts fr r with
      | none => rw [hr] at h; cases h
      | some us =>
        rw [hr] at h
        cases h
        simp only [List.all_cons, Bool.and_eq_true] at hl
        refine .cons ⟨rfl, ?_⟩ (parts_ok hr (fun y hy => he y (List.mem_cons_of_mem _ hy)) hl.2)
        have hv := he x (List.mem_cons_self ..) v hx
        cases v with
        | tuple cs => cases hl.1
        | _ => simp only [VR] at hv; exact hv
end
end Go.Proofs.Ythjlpklloioknaa.Ex
namespace Go.Proofs.Ythjlpklloioknaa.Ex
open Go
set_option linter.unusedVariables false
set_option linter.unusedSimpArgs false
section
variable {P : Program}
theorem partV_run {t : TypeId} {cs : Array Value} {off : Nat} {u : Value} (h : partV P t cs off = some u) (w : World) : (part t cs off).run P w = .ok u w := by
  unfold partV at h
  cases hg : aggT P t with
  | none => rw [hg] at h; cases h
  | some g =>
    rw [hg] at h
    simp only [Option.bind_some] at h
    cases g with
    | true =>
      rw [if_pos rfl] at h
      cases hn : sz P t with
      | none => rw [hn] at h; cases h
      | some n =>
        rw [hn] at h
        simp only [Option.bind_some] at h
        split at h
        · cases h
          simp [part, run_aggT hg, run_sz hn]
        · cases h
    | false =>
      rw [if_neg Bool.false_ne_true] at h
      have : cs[off]? = some u := by simpa using h
      simp [part, run_aggT hg, this]
theorem loop_run {α : Type} {W : World} (body : α → Option Bool × Unit → Sem (ForInStep (Option Bool × Unit))) (c : α → Bool) : ∀ (l : List α),
    (∀ x, x ∈ l → ∀ s, (body x s).run P W = .ok (if c x = true then .yield (none, ()) else .done (some false, ())) W) →
    (forIn l ((none, ()) : Option Bool × Unit) body).run P W = .ok (if l.all c = true then (none, ()) else (some false, ())) W
  | [], _ => rfl
  | x :: l, h => by
    have hx := h x List.mem_cons_self (none, ())
    simp only [List.forIn_cons, Sem.run_bind, hx, Result.andThen_ok]
    cases hc : c x with
    | true =>
      simp only [if_true, List.all_cons, hc, Bool.true_and]
      exact loop_run body c l fun y hy s => h y (List.mem_cons_of_mem _ hy) s
    | false =>
      simp [hc]
theorem eqAll_spec {α : Type} {f : α → Option Bool} : ∀ {l : List α} {b : Bool}, eqAll f l = some b → ∃ c : α → Bool, (∀ x, x ∈ l → f x = some (c x)) ∧ b = l.all c := by
  intro l b h
  refine ⟨fun x => (f x).getD false, ?_, ?_⟩
  · induction l generalizing b with
    | nil => intro x hx; cases hx
    | cons y l ih =>
      simp only [eqAll] at h
      cases hy : f y with
      | none => rw [hy] at h; cases h
      | some d =>
        rw [hy] at h
        simp only [Option.bind_some] at h
        cases hl : eqAll f l with
        | none => rw [hl] at h; cases h
        | some e =>
          intro x hx
          rcases List.mem_cons.1 hx with rfl | hx
          · show f x = some ((f x).getD false)
            rw [hy]; rfl
          · exact ih hl x hx
  · induction l generalizing b with
    | nil => simp only [eqAll, Option.some.injEq] at h; rw [← h]; rfl
    | cons y l ih =>
      simp only [eqAll] at h
      cases hy : f y with
      | none => rw [hy] at h; cases h
      | some d =>
        rw [hy] at h
        simp only [Option.bind_some] at h
        cases hl : eqAll f l with
        | none => rw [hl] at h; cases h
        | some e =>
          rw [hl] at h
          simp only [Option.map_some, Option.some.injEq] at h
          rw [← h, List.all_cons, hy, ← ih hl]
          rfl
theorem eqA_run : ∀ (d : Nat) {t : TypeId} {x y : Value} {b : Bool}, eqA P d t x y = some b → ∀ (D : Nat), d ≤ D → ∀ w : World, (Op.equalIn D t x y).run P w = .ok b w
  | 0, _, _, _, _, h, _, _, _ => by cases h
  | d + 1, t, x, y, b, h, 0, hD, w => by omega
  | d + 1, t, x, y, b, h, D + 1, hD, w => by
    have ih := fun {t : TypeId} {x y : Value} {b : Bool} (h : eqA P d t x y = some b) (w : World) => eqA_run d h D (by omega) w
    unfold eqA at h
    split at h
    · rename_i hu
      cases h
      rw [Op.equalIn]
      simp only [Sem.run_bind, run_und hu, Result.andThen_ok, Sem.run_pure]
    · rename_i hu
      split at h
      · rename_i hk
        cases h
        rw [Op.equalIn]
        simp only [Sem.run_bind, run_und hu, Result.andThen_ok, Sem.run_pure, hk, if_true]
      · cases h
    · rename_i hu
      cases h
      rw [Op.equalIn]
      simp only [Sem.run_bind, run_und hu, Result.andThen_ok, Sem.run_pure]
    · rename_i fs xs ys hu
      split at h
      · cases h
      · rename_i hst
        obtain ⟨c, h1, rfl⟩ := eqAll_spec h
        have hp : ∀ w : World, (program : Sem Program).run P w = .ok P w := fun _ => rfl
        rw [Op.equalIn]
        simp only [Sem.run_bind, run_und hu, Result.andThen_ok, hp, hst, if_false, Bool.false_eq_true]
        rw [← Array.forIn_toList, loop_run _ c fs.toList ?_]
        · simp only [Result.andThen_ok]
          cases fs.toList.all c <;> rfl
        · intro f hf s
          have hf := h1 f hf
          by_cases hn : f.name = "_"
          · rw [if_pos hn] at hf
            have : c f = true := by simpa using hf.symm
            simp [hn, this]
          · rw [if_neg hn] at hf
            cases hx : partV P f.type xs f.offset with
            | none => rw [hx] at hf; cases hf
            | some u =>
              cases hy : partV P f.type ys f.offset with
              | none => rw [hx, hy] at hf; cases hf
              | some v =>
                rw [hx, hy] at hf
                simp only [Option.bind_some] at hf
                have hn' : f.name ≠ "_" := hn
                simp only [hn', ne_eq, not_false_eq_true, if_true, Sem.run_bind, partV_run hx, partV_run hy, Result.andThen_ok, ih hf w]
                cases c f <;> rfl
    · rename_i len e xs ys hu
      cases hn : sz P e with
      | none => rw [hn] at h; cases h
      | some n =>
        rw [hn] at h
        simp only [Option.bind_some] at h
        obtain ⟨c, h1, rfl⟩ := eqAll_spec h
        rw [Op.equalIn]
        simp only [Sem.run_bind, run_und hu, Result.andThen_ok, run_sz hn]
        rw [Std.Legacy.Range.forIn_eq_forIn_range', loop_run _ c _ ?_]
        · simp only [Result.andThen_ok, Std.Legacy.Range.size, Nat.sub_zero, Nat.add_sub_cancel, Nat.div_one, List.range_eq_range']
          cases (List.range' 0 len 1).all c <;> rfl
        · intro i hi s
          have hi : i ∈ List.range len := by simpa [List.range_eq_range', Std.Legacy.Range.size] using hi
          have hf := h1 i hi
          cases hx : partV P e xs (i * n) with
          | none => rw [hx] at hf; cases hf
          | some u =>
            cases hy : partV P e ys (i * n) with
            | none => rw [hx, hy] at hf; cases hf
            | some v =>
              rw [hx, hy] at hf
              simp only [Option.bind_some] at hf
              simp only [Sem.run_bind, partV_run hx, partV_run hy, Result.andThen_ok, ih hf w]
              cases c i <;> rfl
    · cases h
theorem agg_eq {t : TypeId} {xs ys : Array Value} {b : Bool} (hg : P.eqGuardType P.depth t = false) (h : eqA P 12 t (.agg xs) (.agg ys) = some b) (W : World) :
    (binOp .eql t (.agg xs) (.agg ys)).run P W = .ok (.bool b) W ∧ (binOp .neq t (.agg xs) (.agg ys)).run P W = .ok (.bool (!b)) W ∧ ∀ op x y, (eqGuard op t x y (.agg xs) (.agg ys)).run P W = .ok () W := by
  have h1 : (Op.equal t (.agg xs) (.agg ys)).run P W = .ok b W := by
    unfold Op.equal
    exact eqA_run 12 h _ (by decide) W
  have e1 : binOp .eql t (.agg xs) (.agg ys) = (do pure (.bool (← Op.equal t (.agg xs) (.agg ys)))) := rfl
  have e2 : binOp .neq t (.agg xs) (.agg ys) = (do pure (.bool (!(← Op.equal t (.agg xs) (.agg ys))))) := rfl
  refine ⟨?_, ?_, fun op x y => ?_⟩
  · rw [e1]; simp only [Sem.run_bind, h1, Result.andThen_ok, Sem.run_pure]
  · rw [e2]; simp only [Sem.run_bind, h1, Result.andThen_ok, Sem.run_pure]
  · have hp : ∀ w : World, (program : Sem Program).run P w = .ok P w := fun _ => rfl
    cases op with
    | eql => simp [eqGuard, hp, hg]
    | neq => simp [eqGuard, hp, hg]
    | _ => simp [eqGuard]
end
end Go.Proofs.Ythjlpklloioknaa.Ex
namespace Go.Proofs.Ythjlpklloioknaa.Ex
open Go
set_option linter.unusedVariables false
set_option linter.unusedSimpArgs false
section
variable {P : Program} {F : List Nat} {fr : Fr} {hp : Hp} {o : Oper}
theorem mapM_places {fs : Array Field} (h : ∀ f, f ∈ fs.toList → (sz P f.type).isSome = true) (w : World) :
    (fs.mapM (fun (f : Field) => do pure (f.offset, ← sizeOf f.type)) : Sem (Array (Nat × Nat))).run P w = .ok (fs.map fun f => (f.offset, (sz P f.type).getD 0)) w := by
  have key : ∀ (l : List Field), (∀ f, f ∈ l → (sz P f.type).isSome = true) → (l.mapM (fun (f : Field) => do pure (f.offset, ← sizeOf f.type)) : Sem (List (Nat × Nat))).run P w = .ok (l.map fun f => (f.offset, (sz P f.type).getD 0)) w := by
    intro l
    induction l with
    | nil => intro _; rfl
    | cons f l ih =>
      intro h
      obtain ⟨n, hn⟩ := Option.isSome_iff_exists.1 (h f (List.mem_cons_self ..))
      have i := ih fun g hg => h g (List.mem_cons_of_mem _ hg)
      simp only [List.mapM_cons, Sem.run_bind, run_sz hn, Result.andThen_ok, Sem.run_pure, i, hn, List.map_cons, Option.getD_some]
  have k := key fs.toList h
  rw [Array.mapM_eq_mapM_toList]
  simp only [Sem.run_map, k, Result.andThen_ok]
  congr 1
  apply Array.toList_inj.1
  simp
theorem build_sat {t : TypeId} {ps : Array (Nat × Operand)} (ho : o.op = .build t ps) : Sat ((lift (parts fr ps.toList)).bind fun ps => (chk (ps.all fun p => lvlC p.2)).bind fun _ => (buildA P t ps).map fun v => (⟨v, hp, []⟩ : Res)) (OpOk P F fr hp o) := by
  refine Sat.bind_lift fun vs hvs => Sat.bind_chk fun hlv => Sat.map ?_
  have eP : ∀ ν (a : Act), Env ν fr a o → L2 (fun p q => p.1 = q.1 ∧ VRC ν p.2 q.2) vs (ps.toList.map fun p => (p.1, a.eval p.2)) := fun ν a he =>
    parts_ok hvs (fun x hx v hv => he x (by simp only [ho, Op.operands]; simpa using hx) v hv) hlv
  unfold buildA
  refine Sat.bind_lift fun z hz => Sat.bind_chk fun hfl => ?_
  split
  · rename_i fs hd
    refine Sat.bind_chk fun hsz => Sat.map ?_
    intro o' r he' hg
    refine OpOk.pure fun ν a w he _ => ?_
    obtain ⟨r', h1, h2⟩ := fill_ok (ν := ν) (eP ν a he) ((flat_L2 hfl).2 rfl) o' r he' hg
    refine ⟨.agg r', ?_, ⟨_, rfl, by simpa using h2⟩⟩
    have e1 : (ps.map fun x => (x.1, a.eval x.2)).toList = ps.toList.map fun p => (p.1, a.eval p.2) := by simp
    have e3 : (fun i : Nat => (fs[i]?).map fun f => (f.offset, (sz P f.type).getD 0)) = fun i : Nat => (fs.map fun f => (f.offset, (sz P f.type).getD 0))[i]? := by
      funext i
      simp
    rw [e3] at h1
    have hm := mapM_places (P := P) (fs := fs) (fun f hf => List.all_eq_true.1 hsz f hf) w
    simp only [execOp, ho, Instr.build, Sem.run_bind, run_zeroT hz, Result.andThen_ok, run_und hd, hm, Sem.run_pure, e1]
    have e2 : Instr.fill (fun i : Nat => (fs.map fun f => (f.offset, (sz P f.type).getD 0))[i]?) z.cells (ps.toList.map fun p => (p.1, a.eval p.2)) = some r' := by simpa using h1
    simp only [e2, Sem.run_pure, Result.andThen_ok]
  · rename_i len e hd
    refine Sat.bind_lift fun n hn => Sat.map ?_
    intro o' r he' hg
    refine OpOk.pure fun ν a w he _ => ?_
    obtain ⟨r', h1, h2⟩ := fill_ok (ν := ν) (eP ν a he) ((flat_L2 hfl).2 rfl) o' r he' hg
    refine ⟨.agg r', ?_, ⟨_, rfl, by simpa using h2⟩⟩
    have e1 : (ps.map fun x => (x.1, a.eval x.2)).toList = ps.toList.map fun p => (p.1, a.eval p.2) := by simp
    simp only [execOp, ho, Instr.build, Sem.run_bind, run_zeroT hz, Result.andThen_ok, run_und hd, run_sz hn, Sem.run_pure, e1]
    have e2 : Instr.fill (fun i => some (i * n, n)) z.cells (ps.toList.map fun p => (p.1, a.eval p.2)) = some r' := by simpa using h1
    simp [e2]
  · exact Sat.stop
theorem nil_eq {t : TypeId} {v w v' : Value} {b : Bool} {ν : Nu} (hv : isNilV P t v = some b) (hw : isNilV P t w = some true) (h : VR ν v v') {w' : Value} (h2 : VR ν w w') (W : World) :
    (binOp .eql t v' w').run P W = .ok (.bool b) W ∧ (binOp .neq t v' w').run P W = .ok (.bool (!b)) W ∧ ∀ op x y, (eqGuard op t x y v' w').run P W = .ok () W := by
  have eqn : ∀ {b}, (Op.equal t v' w').run P W = .ok b W → (binOp .eql t v' w' = do pure (.bool (← Op.equal t v' w'))) → (binOp .neq t v' w' = do pure (.bool (!(← Op.equal t v' w')))) → (∀ op x y, (eqGuard op t x y v' w').run P W = .ok () W) →
      (binOp .eql t v' w').run P W = .ok (.bool b) W ∧ (binOp .neq t v' w').run P W = .ok (.bool (!b)) W ∧ ∀ op x y, (eqGuard op t x y v' w').run P W = .ok () W := by
    intro b h1 h2 h3 h4
    rw [h2, h3]
    simp only [Sem.run_bind, h1, Result.andThen_ok, Sem.run_pure]
    exact ⟨trivial, trivial, h4⟩
  have grd : ∀ (p q : Value), (∀ cs, p ≠ .agg cs) → p ≠ .nilIface → ∀ op x y, (eqGuard op t x y p q).run P W = .ok () W := by
    intro p q h1 h2 op x y
    cases p with
    | agg cs => exact absurd rfl (h1 cs)
    | nilIface => exact absurd rfl h2
    | _ => cases op <;> first | rfl | (simp [eqGuard]; done)
  obtain ⟨n, hn⟩ : ∃ n, Op.maxDepth = n + 1 := ⟨9999, rfl⟩
  unfold isNilV at hv hw
  split at hv
  all_goals first | cases hv | skip
  all_goals (rename_i hd; split at hw; all_goals first | cases hw | skip)
  all_goals first | (rename_i hd2; rw [hd] at hd2; first | (cases hd2; done) | cases hd2) | skip
  · cases h; cases h2
    exact eqn (by unfold Op.equal; rw [hn, Op.equalIn]; simp only [Sem.run_bind, run_und hd, Result.andThen_ok]; rfl) rfl rfl (grd _ _ (fun _ h => by cases h) (fun h => by cases h))
  · obtain ⟨N, _, _, rfl⟩ := h; cases h2
    exact eqn (by unfold Op.equal; rw [hn, Op.equalIn]; simp only [Sem.run_bind, run_und hd, Result.andThen_ok]; rfl) rfl rfl (grd _ _ (fun _ h => by cases h) (fun h => by cases h))
  · cases h; cases h2
    exact eqn (by unfold Op.equal; rw [hn, Op.equalIn]; simp only [Sem.run_bind, run_und hd, Result.andThen_ok]; rfl) rfl rfl (grd _ _ (fun _ h => by cases h) (fun h => by cases h))
  · obtain ⟨a', c', rfl, _⟩ := h; cases h2
    exact eqn (by unfold Op.equal; rw [hn, Op.equalIn]; simp only [Sem.run_bind, run_und hd, Result.andThen_ok]; rfl) rfl rfl (grd _ _ (fun _ h => by cases h) (fun h => by cases h))
  · cases h; cases h2
    exact eqn (by unfold Op.equal; rw [hn, Op.equalIn]; simp only [Sem.run_bind, run_und hd, Result.andThen_ok]; rfl) rfl rfl (grd _ _ (fun _ h => by cases h) (fun h => by cases h))
  · obtain ⟨f', c', rfl, _⟩ := h; cases h2
    exact eqn (by unfold Op.equal; rw [hn, Op.equalIn]; simp only [Sem.run_bind, run_und hd, Result.andThen_ok]; rfl) rfl rfl (grd _ _ (fun _ h => by cases h) (fun h => by cases h))
theorem guard_ne {op : BinOp} (h : op ≠ .eql ∧ op ≠ .neq) {t : TypeId} {x y : Operand} {p q : Value} (W : World) : (eqGuard op t x y p q).run P W = .ok () W := by
  cases op with
  | eql => exact absurd rfl h.1
  | neq => exact absurd rfl h.2
  | _ => simp [eqGuard]
theorem bin_sat {op : BinOp} {t : TypeId} {x y : Operand} {yt : TypeId} (ho : o.op = .binOp op t x y yt) :
    Sat ((lift (val fr x)).bind fun v => (lift (val fr y)).bind fun w => (binA P fr o op t v w).map fun v => (⟨v, hp, []⟩ : Res)) (OpOk P F fr hp o) := by
  refine Sat.bind_lift fun v hv => Sat.bind_lift fun w hw => Sat.map ?_
  have ex : ∀ ν (a : Act), Env ν fr a o → VR ν v (a.eval x) ∧ VR ν w (a.eval y) := fun ν a he => ⟨he x (by simp [ho, Op.operands]) _ hv, he y (by simp [ho, Op.operands]) _ hw⟩
  have plain : Sat (lift (plainA P fr o)) fun v => OpOk P F fr hp o ⟨v, hp, []⟩ := Sat.lift fun v hv => OpOk.pure fun ν a w he _ => ⟨v, plain_ok hv he w⟩
  have run2 : ∀ (a : Act) (W : World) (r : Value), (eqGuard op t x y (a.eval x) (a.eval y)).run P W = .ok () W → (binOp op t (a.eval x) (a.eval y)).run P W = .ok r W → (execOp a.eval o).run P W = .ok (.value r) W := by
    intro a W r h1 h2
    simp only [execOp, ho, Sem.run_bind, h1, h2, Result.andThen_ok, Sem.run_pure]
  unfold binA
  split
  · refine Sat.bind_chk fun hc => Sat.ret _ (OpOk.pure fun ν a W he _ => ⟨_, run2 a W _ (guard_ne ⟨by decide, by decide⟩ W) ?_, rfl⟩)
    obtain ⟨e1, e2⟩ := ex ν a he
    rw [VR.int e1, VR.int e2]
    have h0 : ¬ _ < (0 : Int) := Int.not_lt.2 (of_decide_eq_true hc)
    simp only [binOp, Op.shift, if_neg h0, Sem.run_pure]
  · refine Sat.bind_chk fun hc => Sat.ret _ (OpOk.pure fun ν a W he _ => ⟨_, run2 a W _ (guard_ne ⟨by decide, by decide⟩ W) ?_, rfl⟩)
    obtain ⟨e1, e2⟩ := ex ν a he
    rw [VR.int e1, VR.int e2]
    have h0 : ¬ _ < (0 : Int) := Int.not_lt.2 (of_decide_eq_true hc)
    simp only [binOp, Op.shift, if_neg h0, Sem.run_pure]
  · refine Sat.bind_chk fun hc => Sat.ret _ (OpOk.pure fun ν a W he _ => ⟨_, run2 a W _ (guard_ne ⟨by decide, by decide⟩ W) ?_, rfl⟩)
    obtain ⟨e1, e2⟩ := ex ν a he
    simp only [Bool.and_eq_true, beq_iff_eq, decide_eq_true_eq] at hc
    obtain ⟨rfl, h0⟩ := hc
    rw [VR.int e1, VR.int e2]
    simp [binOp, Op.intDiv, h0]
  · refine Sat.bind_chk fun hc => Sat.ret _ (OpOk.pure fun ν a W he _ => ⟨_, run2 a W _ (guard_ne ⟨by decide, by decide⟩ W) ?_, rfl⟩)
    obtain ⟨e1, e2⟩ := ex ν a he
    simp only [Bool.and_eq_true, beq_iff_eq, decide_eq_true_eq] at hc
    obtain ⟨rfl, h0⟩ := hc
    rw [VR.int e1, VR.int e2]
    simp [binOp, Op.intDiv, h0]
  · refine Sat.bind_chk fun hc => Sat.ret _ (OpOk.pure fun ν a W he _ => ⟨_, run2 a W _ (guard_ne ⟨by decide, by decide⟩ W) ?_, rfl⟩)
    obtain ⟨e1, e2⟩ := ex ν a he
    rw [VR.str e1, VR.str e2]
    have hm : IntKind.i64.max = 9223372036854775807 := by decide
    have h0 := of_decide_eq_true hc
    simp only [binOp, Op.stringOp, hm]
    rw [if_neg (by omega)]
    rfl
  · rename_i xs ys
    refine Sat.map ?_
    unfold eqAgg
    refine Sat.bind_chk fun hc => Sat.lift fun b hb => OpOk.pure fun ν a W he _ => ?_
    simp only [Bool.and_eq_true, Bool.not_eq_true'] at hc
    obtain ⟨e1, e2⟩ := ex ν a he
    have q1 := (flat_VR (v := .agg xs) hc.1.1 _).1 e1
    have q2 := (flat_VR (v := .agg ys) hc.1.2 _).1 e2
    have k := agg_eq hc.2 hb W
    rw [← q1, ← q2] at k
    exact ⟨.bool b, run2 a W _ (k.2.2 _ _ _) k.1, rfl⟩
  · rename_i xs ys
    refine Sat.map ?_
    unfold eqAgg
    refine Sat.bind_chk fun hc => Sat.lift fun b hb => OpOk.pure fun ν a W he _ => ?_
    simp only [Bool.and_eq_true, Bool.not_eq_true'] at hc
    obtain ⟨e1, e2⟩ := ex ν a he
    have q1 := (flat_VR (v := .agg xs) hc.1.1 _).1 e1
    have q2 := (flat_VR (v := .agg ys) hc.1.2 _).1 e2
    have k := agg_eq hc.2 hb W
    rw [← q1, ← q2] at k
    exact ⟨.bool !b, run2 a W _ (k.2.2 _ _ _) k.2.1, rfl⟩
  · split
    · rename_i r hr
      exact Sat.ret _ (OpOk.pure fun ν a w he _ => ⟨r, plain_ok hr he w⟩)
    · split
      · rename_i hn
        refine Sat.bind_lift fun b hb => Sat.ret _ (OpOk.pure fun ν a W he _ => ?_)
        obtain ⟨e1, e2⟩ := ex ν a he
        have k := nil_eq (P := P) hb hn e1 e2 W
        exact ⟨.bool b, run2 a W _ (k.2.2 _ _ _) k.1, rfl⟩
      · exact Sat.stop
  · split
    · rename_i r hr
      exact Sat.ret _ (OpOk.pure fun ν a w he _ => ⟨r, plain_ok hr he w⟩)
    · split
      · rename_i hn
        refine Sat.bind_lift fun b hb => Sat.ret _ (OpOk.pure fun ν a W he _ => ?_)
        obtain ⟨e1, e2⟩ := ex ν a he
        have k := nil_eq (P := P) hb hn e1 e2 W
        exact ⟨.bool !b, run2 a W _ (k.2.2 _ _ _) k.2.1, rfl⟩
      · exact Sat.stop
  · exact plain
theorem vals_one {xs : Array Operand} {v : Value} (h : vals fr xs.toList = some [v]) : ∃ x, xs = #[x] ∧ val fr x = some v := by
  obtain ⟨xs⟩ := xs
  match xs, h with
  | [], h => cases h
  | [x], h =>
    simp only [vals] at h
    cases hx : val fr x with
    | none => rw [hx] at h; cases h
    | some u => rw [hx] at h; cases h; exact ⟨x, rfl, hx⟩
  | x :: y :: r, h =>
    simp only [vals] at h
    cases hx : val fr x with
    | none => rw [hx] at h; cases h
    | some u =>
      rw [hx] at h
      cases hy : val fr y with
      | none => rw [hy] at h; cases h
      | some u2 =>
        rw [hy] at h
        cases hr : vals fr r with
        | none => rw [hr] at h; cases h
        | some us => rw [hr] at h; cases h
theorem vals_two {xs : Array Operand} {v w : Value} (h : vals fr xs.toList = some [v, w]) : ∃ x y, xs = #[x, y] ∧ val fr x = some v ∧ val fr y = some w := by
  obtain ⟨xs⟩ := xs
  match xs, h with
  | [], h => cases h
  | [x], h =>
    simp only [vals] at h
    cases hx : val fr x with
    | none => rw [hx] at h; cases h
    | some u => rw [hx] at h; cases h
  | [x, y], h =>
    simp only [vals] at h
    cases hx : val fr x with
    | none => rw [hx] at h; cases h
    | some u =>
      rw [hx] at h
      cases hy : val fr y with
      | none => rw [hy] at h; cases h
      | some u2 => rw [hy] at h; cases h; exact ⟨x, y, rfl, hx, hy⟩
  | x :: y :: z :: r, h =>
    simp only [vals] at h
    cases hx : val fr x with
    | none => rw [hx] at h; cases h
    | some u =>
      rw [hx] at h
      cases hy : val fr y with
      | none => rw [hy] at h; cases h
      | some u2 =>
        rw [hy] at h
        cases hz : val fr z with
        | none => rw [hz] at h; cases h
        | some u3 =>
          rw [hz] at h
          cases hr : vals fr r with
          | none => rw [hr] at h; cases h
          | some us => rw [hr] at h; cases h
theorem len_sat {xs : Array Operand} {ts : Array TypeId} (ho : o.op = .call { callee := .builtin .len, args := xs, argTypes := ts }) :
    Sat ((lift (vals fr xs.toList)).bind fun vs => match vs, (ts[0]?).bind P.underlying with
      | [.slice _ n _], some (.slice _) => ret (⟨.int .i64 n, hp, []⟩ : Res)
      | [.string s], some .string => ret (⟨.int .i64 s.size, hp, []⟩ : Res)
      | [_], some (.array n _) => ret (⟨.int .i64 n, hp, []⟩ : Res)
      | _, _ => stop) (OpOk P F fr hp o) := by
  refine Sat.bind_lift fun vs hvs => ?_
  have tt : ∀ {d}, (ts[0]?).bind P.underlying = some d → ∃ t, ts[0]? = some t ∧ P.underlying t = some d := fun h => by
    cases ht : ts[0]? with
    | none => rw [ht] at h; cases h
    | some t => rw [ht] at h; exact ⟨t, rfl, h⟩
  split
  · rename_i a0 n c e hd
    obtain ⟨t, ht, hd⟩ := tt hd
    refine Sat.ret _ (OpOk.pure fun ν a W he _ => ⟨.int .i64 n, ?_, rfl⟩)
    obtain ⟨x, rfl, hx⟩ := vals_one hvs
    have h1 := he x (by simp [ho, Op.operands, Call.operands]) _ hx
    have h2 : ∃ a' c', a.eval x = .slice a' n c' := by
      cases a0 with
      | some ad => obtain ⟨a', c', h, _⟩ := h1; exact ⟨_, _, h⟩
      | none => cases n <;> cases c <;> simp [VR, VRC, VR1, VR0] at h1; exact ⟨_, _, h1⟩
    obtain ⟨a', c', h2⟩ := h2
    simp [execOp, ho, resolve, invoke, builtin, Builtin.len_, ht, run_und hd, h2, goInt]
  · rename_i s hd
    obtain ⟨t, ht, hd⟩ := tt hd
    refine Sat.ret _ (OpOk.pure fun ν a W he _ => ⟨.int .i64 s.size, ?_, rfl⟩)
    obtain ⟨x, rfl, hx⟩ := vals_one hvs
    have h2 : a.eval x = .string s := he x (by simp [ho, Op.operands, Call.operands]) _ hx
    simp [execOp, ho, resolve, invoke, builtin, Builtin.len_, ht, run_und hd, h2, goInt]
  · rename_i _ _ v0 n e hd
    obtain ⟨t, ht, hd⟩ := tt hd
    refine Sat.ret _ (OpOk.pure fun ν a W he _ => ⟨.int .i64 n, ?_, rfl⟩)
    obtain ⟨x, rfl, hx⟩ := vals_one hvs
    simp [execOp, ho, resolve, invoke, builtin, Builtin.len_, ht, run_und hd, goInt]
  · exact Sat.stop
end
end Go.Proofs.Ythjlpklloioknaa.Ex
namespace Go.Proofs.Ythjlpklloioknaa.Ex
open Go
set_option linter.unusedVariables false
set_option linter.unusedSimpArgs false
section
variable {P : Program} {F : List Nat} {fr : Fr} {hp : Hp} {o : Oper}
theorem FzOk.none {P : Program} {e n : Nat} : FzOk P e n 0 0 := ⟨fun o _ hh => by omega, fun _ => ⟨rfl, rfl⟩⟩
theorem RepBlk.lt {ν : Nu} {w : World} {id : Nat} {b : Blk} (h : RepBlk P ν w id b) (hl : b.live = true) {N : Nm} (hN : ν id = some N) : N.g < w.heap.size := by
  cases b with
  | dead => cases hl
  | own e cs =>
    obtain ⟨g, cur, lo, hi, h1, h2, _⟩ := h
    rw [h1] at hN
    cases hN
    show g < w.heap.size
    rcases Nat.lt_or_ge g w.heap.size with hlt | hge
    · exact hlt
    · rw [Array.getElem?_eq_none hge] at h2; cases h2
  | ro e cs =>
    obtain ⟨N', h1, _, h3, _⟩ := h
    rw [h1] at hN
    cases hN
    exact h3
theorem own_live {b : Blk} (h : b.isOwn = true) : b.live = true := by cases b <;> first | rfl | cases h
def named (ν : Nu) (n : Nat) (N : Nm) : Nu := fun id => if id = n then some N else ν id
theorem named_le {ν : Nu} {n : Nat} {N : Nm} (h : ν n = none) : Le ν (named ν n N) := fun id M hM => by
  unfold named
  split
  · rename_i e; subst e; rw [h] at hM; cases hM
  · exact hM
theorem getD_snoc {b : Blk} (id : Nat) : (hp ++ [b]).getD id .dead = if id < hp.length then hp.getD id .dead else if id = hp.length then b else .dead := by
  simp only [List.getD_eq_getElem?_getD]
  rcases Nat.lt_trichotomy id hp.length with h | h | h
  · rw [if_pos h, List.getElem?_append_left h]
  · subst h
    rw [if_neg (Nat.lt_irrefl _), if_pos rfl, List.getElem?_append_right (Nat.le_refl _)]
    simp
  · rw [if_neg (by omega), if_neg (by omega), List.getElem?_append_right (by omega), List.getElem?_eq_none (by simp; omega)]
    rfl
theorem push_old {w : World} {x : Obj} {g : Nat} (h : g < w.heap.size) : (w.heap.push x)[g]? = w.heap[g]? := by
  rw [Array.getElem?_push, if_neg (by omega)]
theorem push_new {w : World} {x : Obj} : (w.heap.push x)[w.heap.size]? = some x := by simp
theorem Shape.new {v : Value} {b : Blk} : Shape F hp ⟨v, hp ++ [b], []⟩ :=
  ⟨by simp, fun _ h => by simp at h, fun _ h => by simp at h, fun id h _ => by
    show (hp ++ [b]).getD id .dead = _
    rw [getD_snoc, if_pos h]⟩
theorem Post.new {ν : Nu} {w w' : World} {e : TypeId} {cs : List Value} {cur : Array Value} {lo hi : Nat} (h : Pre P F ν hp w) (hw : w'.heap = w.heap.push (.cells cur e (lo, hi)))
    (h1 : w'.os = w.os) (h2 : w'.tape = w.tape) (h3 : w'.output = w.output) (hnf : FzOk P e cur.size lo hi) (hl : cs.length ≤ cur.size) (hc : L2 (CR P ν e) cs (cur.toList.take cs.length)) (v : Value) :
    Post P F ν hp w ⟨v, hp ++ [.own e cs], []⟩ (named ν hp.length ⟨w.heap.size, 0, cur.size, (sz P e).getD 0⟩) w' := by
  have le : Le ν (named ν hp.length ⟨w.heap.size, 0, cur.size, (sz P e).getD 0⟩) := named_le (h.dom _ (Nat.le_refl _))
  have hs : w.heap.size ≤ w'.heap.size := by rw [hw]; simp
  have at_new : ∀ id, hp.length ≤ id → id ≠ hp.length → named ν hp.length ⟨w.heap.size, 0, cur.size, (sz P e).getD 0⟩ id = none := fun id hid hne => by
    unfold named
    rw [if_neg hne]
    exact h.dom id hid
  refine ⟨fun id hid => ?_, fun id hid => ?_, fun id hid => ?_, fun i j N K hne hi' hj' ho hlv hN hK => ?_, h1, h2, h3, hs, fun g hg _ => ?_, fun id N hid hlv hN => ?_⟩
  · unfold named
    rw [if_neg (by omega)]
  · exact at_new id (by simp at hid; omega) (by simp at hid; omega)
  · show RepBlk P _ w' id ((hp ++ [Blk.own e cs]).getD id .dead)
    rw [getD_snoc]
    by_cases c1 : id < hp.length
    · rw [if_pos c1]
      have hF : id ∈ F := hid.resolve_right (by omega)
      have hb := h.blk id hF
      exact hb.le le (fun N hN hlive => by rw [hw]; exact push_old (hb.lt hlive hN)) hs
    · rw [if_neg c1]
      by_cases c2 : id = hp.length
      · rw [if_pos c2]
        subst c2
        refine ⟨w.heap.size, cur, lo, hi, by unfold named; rw [if_pos rfl], by rw [hw]; exact push_new, hnf, hl, hc.mono fun _ _ => CR.le le⟩
      · rw [if_neg c2]
        trivial
  · change ((hp ++ [Blk.own e cs]).getD i .dead).isOwn = true at ho
    change ((hp ++ [Blk.own e cs]).getD j .dead).live = true at hlv
    rw [getD_snoc] at ho hlv
    have old : ∀ k M, k < hp.length → (k ∈ F ∨ hp.length ≤ k) → (hp.getD k .dead).live = true → named ν hp.length ⟨w.heap.size, 0, cur.size, (sz P e).getD 0⟩ k = some M → ν k = some M ∧ M.g < w.heap.size ∧ k ∈ F := by
      intro k M hk hkF hkl hM
      unfold named at hM
      rw [if_neg (by omega)] at hM
      have hF := hkF.resolve_right (by omega)
      exact ⟨hM, (h.blk k hF).lt hkl hM, hF⟩
    by_cases ci : i < hp.length
    · rw [if_pos ci] at ho
      obtain ⟨a1, a2, a3⟩ := old i N ci hi' (own_live ho) hN
      by_cases cj : j < hp.length
      · rw [if_pos cj] at hlv
        obtain ⟨b1, b2, b3⟩ := old j K cj hj' hlv hK
        exact h.sep i j N K hne a3 b3 ho hlv a1 b1
      · rw [if_neg cj] at hlv
        split at hlv
        · rename_i ej
          subst ej
          unfold named at hK
          rw [if_pos rfl] at hK
          cases hK
          show N.g ≠ w.heap.size
          omega
        · cases hlv
    · rw [if_neg ci] at ho
      split at ho
      · rename_i ei
        subst ei
        unfold named at hN
        rw [if_pos rfl] at hN
        cases hN
        by_cases cj : j < hp.length
        · rw [if_pos cj] at hlv
          obtain ⟨b1, b2, b3⟩ := old j K cj hj' hlv hK
          show w.heap.size ≠ K.g
          omega
        · rw [if_neg cj, if_neg (fun e => hne e.symm)] at hlv
          cases hlv
      · cases ho
  · rw [hw]
    exact push_old hg
  · change ((hp ++ [Blk.own e cs]).getD id .dead).live = true at hlv
    rw [getD_snoc, if_neg (by omega)] at hlv
    split at hlv
    · rename_i ei
      subst ei
      unfold named at hN
      rw [if_pos rfl] at hN
      cases hN
      exact .inl (Nat.le_refl _)
    · cases hlv
theorem CR.of {ν : Nu} {e : TypeId} {l m : List Value} (h : L2 (VR1 ν) l m) (hf : (!flatT P 6 e || l.all flat1) = true) : L2 (CR P ν e) l m := by
  rcases Bool.or_eq_true _ _ ▸ hf with hf | hf
  · exact h.mono fun a b hab => ⟨hab, fun hh => by rw [hh] at hf; cases hf⟩
  · induction h with
    | nil => exact .nil
    | cons h _ ih =>
      simp only [List.all_cons, Bool.and_eq_true] at hf
      exact .cons ⟨h, fun _ => hf.1⟩ (ih (by simp [hf.2]) hf.2)
theorem newRow_run {w : World} {e : TypeId} {cur : Array Value} : (newRow e cur).run P w = .ok ⟨w.heap.size, 0, none⟩ { w with heap := w.heap.push (.cells cur e) } := by simp [newRow]
theorem new_ok {e : TypeId} {cs : List Value} (hf : (!flatT P 6 e || cs.all flat1) = true)
    (h : ∀ ν (a : Act) w, Env ν fr a o → Pre P F ν hp w → ∃ cur : Array Value, L2 (VR1 ν) cs cur.toList ∧ (execOp a.eval o).run P w = .ok (.value (.pointer (some ⟨w.heap.size, 0, none⟩))) { w with heap := w.heap.push (.cells cur e) }) :
    OpOk P F fr hp o ⟨.pointer (some ⟨hp.length, 0, none⟩), hp ++ [.own e cs], []⟩ := by
  refine ⟨Shape.new, fun ν a w he hpre next Q hn => ?_⟩
  obtain ⟨cur, h1, h2⟩ := h ν a w he hpre
  have hlen : cs.length = cur.size := by simpa using h1.len
  have htk : cur.toList.take cs.length = cur.toList := List.take_of_length_le (by simp; omega)
  refine wp_value h2 (hn _ _ _ (Post.new (w' := { w with heap := w.heap.push (.cells cur e) }) (cs := cs) (cur := cur) (lo := 0) (hi := 0) hpre rfl rfl rfl rfl FzOk.none (by omega) (by rw [htk]; exact CR.of h1 hf) _) ?_)
  exact ⟨_, by unfold named; rw [if_pos rfl], rfl, rfl⟩
theorem alloc_sat {e : TypeId} (ho : o.op = .alloc e) : Sat ((lift (zeroT P e)).bind fun z => (chk (z.cells.toList.all flat1)).bind fun _ => newA P hp e z.cells.toList) (OpOk P F fr hp o) := by
  refine Sat.bind_lift fun z hz => Sat.bind_chk fun hz1 => ?_
  unfold newA
  refine Sat.bind_chk fun hf => Sat.ret _ (new_ok hf fun ν a w he _ => ⟨z.cells, (flat_L2 hz1).2 rfl, ?_⟩)
  simp [execOp, ho, Instr.alloc, run_zeroT hz, newVar, newRow_run]
theorem VR.toC {ν : Nu} {v v' : Value} (h : VR ν v v') (hl : lvlC v = true) : VRC ν v v' := by
  cases v with
  | tuple cs => cases hl
  | _ => simp only [VR] at h; exact h
theorem box_sat {e : TypeId} {x : Operand} (ho : o.op = .box e x) : Sat ((lift (val fr x)).bind fun v => (chk (lvlC v)).bind fun _ => newA P hp e v.cells.toList) (OpOk P F fr hp o) := by
  refine Sat.bind_lift fun v hv => Sat.bind_chk fun hl => ?_
  unfold newA
  refine Sat.bind_chk fun hf => Sat.ret _ (new_ok hf fun ν a w he _ => ⟨(a.eval x).cells, ((he x (by simp [ho, Op.operands]) _ hv).toC hl).cells, ?_⟩)
  simp [execOp, ho, Instr.box, newVar, newRow_run]
theorem named_slice {ν : Nu} {n g len cap cap' S u : Nat} (h1 : cap ≤ cap') (h2 : len ≤ cap') (h3 : cap' * u = S) : VR (named ν n ⟨g, 0, S, u⟩) (.slice (some ⟨n, 0, none⟩) len cap) (.slice (some ⟨g, 0, none⟩) len cap') :=
  ⟨_, _, rfl, h1, h2, fun _ => ⟨⟨g, 0, S, u⟩, by unfold named; rw [if_pos rfl], rfl, rfl, by simpa using h3⟩⟩
theorem zeros_eq (z : Array Value) (h0 : 0 < z.size) : ∀ len, ((List.range (len * z.size)).map fun i => z[i % z.size]!) = zeros z.toList len
  | 0 => by simp [zeros]
  | len + 1 => by
    rw [show (len + 1) * z.size = z.size + len * z.size by rw [Nat.add_mul]; omega, List.range_add, List.map_append, zeros, ← zeros_eq z h0 len]
    congr 1
    · apply List.ext_getElem
      · simp
      · intro i h1 h2
        simp at h1
        simp [Nat.mod_eq_of_lt h1, h1]
    · rw [List.map_map]
      apply List.map_congr_left
      intro i _
      simp
theorem zeros_flat {z : List Value} (h : z.all flat1 = true) : ∀ n, (zeros z n).all flat1 = true
  | 0 => rfl
  | n + 1 => by rw [zeros, List.all_append, h, zeros_flat h n]; rfl
theorem zeros_len {z : List Value} : ∀ n, (zeros z n).length = n * z.length
  | 0 => by simp [zeros]
  | n + 1 => by rw [zeros, List.length_append, zeros_len n, Nat.add_mul]; omega
theorem fold_size : ∀ (vs : List (Value × Nat)) (off : Nat) (cells : Array Value), (vs.foldl (fun cs x => cs.setIfInBounds (off + x.2) x.1) cells).size = cells.size
  | [], _, _ => rfl
  | v :: vs, off, cells => by rw [List.foldl_cons, fold_size vs off]; simp
theorem fill_size {pl : Nat → Option (Nat × Nat)} : ∀ {ps : List (Nat × Value)} {cells r : Array Value}, Instr.fill pl cells ps = some r → r.size = cells.size
  | [], cells, r, h => by cases h; rfl
  | (i, v) :: ps, cells, r, h => by
    unfold Instr.fill at h
    split at h
    · cases h
    · split at h
      · cases h
      · rw [fill_size h, ← Array.foldl_toList]
        exact fold_size _ _ _
theorem buildSlice_sat {t : TypeId} {len : Nat} {ps : Array (Nat × Operand)} (ho : o.op = .buildSlice t len ps) :
    Sat ((lift (parts fr ps.toList)).bind fun ps => (chk (ps.all fun p => lvlC p.2)).bind fun _ => buildSliceA P hp t len ps) (OpOk P F fr hp o) := by
  refine Sat.bind_lift fun vs hvs => Sat.bind_chk fun hlv => ?_
  have eP : ∀ ν (a : Act), Env ν fr a o → L2 (fun p q => p.1 = q.1 ∧ VRC ν p.2 q.2) vs (ps.toList.map fun p => (p.1, a.eval p.2)) := fun ν a he =>
    parts_ok hvs (fun x hx v hv => he x (by simp only [ho, Op.operands]; simpa using hx) v hv) hlv
  unfold buildSliceA
  split
  · rename_i e hd
    refine Sat.bind_lift fun n hn => Sat.bind_lift fun z hz => Sat.bind_chk fun hc => ?_
    simp only [Bool.and_eq_true, beq_iff_eq, decide_eq_true_eq] at hc
    obtain ⟨⟨⟨hmx, hzs⟩, h0⟩, hzf⟩ := hc
    intro o' r he' hg
    have key : Sat ((fillA (fun i => some (i * n, n)) (zeros z.cells.toList len) vs).bind fun cs => (chk (!flatT P 6 e || cs.all flat1)).bind fun _ => ret (⟨.slice (some ⟨hp.length, 0, none⟩) len len, hp ++ [.own e cs], []⟩ : Res))
        fun r => ∃ cs, r = ⟨.slice (some ⟨hp.length, 0, none⟩) len len, hp ++ [.own e cs], []⟩ ∧ (!flatT P 6 e || cs.all flat1) = true ∧ ∀ ν (a : Act), Env ν fr a o →
          ∃ r', Instr.fill (fun i => some (i * n, n)) (zeros z.cells.toList len).toArray (ps.toList.map fun p => (p.1, a.eval p.2)) = some r' ∧ L2 (VR1 ν) cs r'.toList := by
      refine Sat.bind (R := fun cs => ∀ ν (a : Act), Env ν fr a o → ∃ r', Instr.fill (fun i => some (i * n, n)) (zeros z.cells.toList len).toArray (ps.toList.map fun p => (p.1, a.eval p.2)) = some r' ∧ L2 (VR1 ν) cs r'.toList) ?_ fun cs hcs => Sat.bind_chk fun hf => Sat.ret _ ⟨cs, rfl, hf, hcs⟩
      intro o1 r1 h1 g1 ν a he
      exact fill_ok (ν := ν) (eP ν a he) ((flat_L2 (zeros_flat hzf len)).2 rfl) o1 r1 h1 g1
    obtain ⟨cs, hr, hf, hfill⟩ := key o' r he' hg
    rw [hr]
    refine ⟨Shape.new, fun ν a w he hpre next Q hnx => ?_⟩
    obtain ⟨cur, h1, h2⟩ := hfill ν a he
    have hcs : cur.size = len * n := by
      rw [fill_size h1]
      simp [zeros_len, hzs]
    have hlen : cs.length = cur.size := by simpa using h2.len
    have htk : cur.toList.take cs.length = cur.toList := List.take_of_length_le (by simp; omega)
    have e1 : (ps.map fun x => (x.1, a.eval x.2)).toList = ps.toList.map fun p => (p.1, a.eval p.2) := by simp
    have hrow : ∀ zr : Array Value, (len * n ≠ 0 → zr = z.cells) → ((Array.range (len * n)).map fun i => zr[i % zr.size]!) = (zeros z.cells.toList len).toArray := by
      intro zr hzr
      apply Array.toList_inj.1
      by_cases c : len * n = 0
      · have : len = 0 := by rcases Nat.mul_eq_zero.1 c with h | h <;> omega
        subst this
        simp [zeros]
      · rw [hzr c]
        have := zeros_eq z.cells (by omega) len
        rw [hzs] at this
        simpa [hzs] using this
    have hrun : (execOp a.eval o).run P w = .ok (.value (.slice (some ⟨w.heap.size, 0, none⟩) len len)) { w with heap := w.heap.push (.cells cur e) } := by
      by_cases c : len * n = 0
      · have hr0 := hrow #[] (fun h => absurd c h)
        simp only [execOp, ho, Instr.buildSlice, Sem.run_bind, run_und hd, Result.andThen_ok, run_sz hn, e1]
        rw [if_neg (by omega), if_pos c]
        simp only [Sem.run_bind, Sem.run_pure, Result.andThen_ok, hr0, h1, newRow_run]
      · have hr0 := hrow z.cells (fun _ => rfl)
        simp only [execOp, ho, Instr.buildSlice, Sem.run_bind, run_und hd, Result.andThen_ok, run_sz hn, e1]
        rw [if_neg (by omega), if_neg c]
        simp only [Sem.run_bind, Sem.run_pure, Result.andThen_ok, run_zeroT hz, hr0, h1, newRow_run]
    refine wp_value hrun (hnx _ _ _ (Post.new (w' := { w with heap := w.heap.push (.cells cur e) }) (cs := cs) (cur := cur) (lo := 0) (hi := 0) hpre rfl rfl rfl rfl FzOk.none (by omega) (by rw [htk]; exact CR.of h2 hf) _) ?_)
    exact named_slice (Nat.le_refl _) (Nat.le_refl _) (by rw [hn, hcs]; rfl)
  · exact Sat.stop
theorem makeSlice_sat {t : TypeId} {x y : Operand} (ho : o.op = .makeSlice t x y) :
    Sat ((lift (val fr x)).bind fun l => (lift (val fr y)).bind fun c => makeSliceA P hp t l c) (OpOk P F fr hp o) := by
  refine Sat.bind_lift fun lv hl => Sat.bind_lift fun cv hcv => ?_
  unfold makeSliceA
  split
  · rename_i e k l k' c hd
    refine Sat.bind_lift fun i hi => Sat.bind_lift fun z hz => Sat.bind_chk fun hc => ?_
    simp only [Bool.and_eq_true, beq_iff_eq, decide_eq_true_eq, most] at hc
    obtain ⟨⟨⟨⟨⟨⟨h1, h2⟩, h3⟩, h4⟩, hzs⟩, h0⟩, hzf⟩ := hc
    replace h3 : c * (i.bytes : Int) ≤ 140737488355328 := of_decide_eq_true h3
    replace h4 : c ≤ 140737488355328 := of_decide_eq_true h4
    refine Sat.ret _ ⟨Shape.new, fun ν a w he hpre next Q hnx => ?_⟩
    have hs : sz P e = some i.size := by unfold sz; rw [hi]; rfl
    have hzt : zeroT P e = some z := by unfold zeroT; rw [hi]; exact hz
    have ex : a.eval x = .int k l := he x (by simp [ho, Op.operands]) _ hl
    have ey : a.eval y = .int k' c := he y (by simp [ho, Op.operands]) _ hcv
    have wl : IntKind.i64.wrap l = l := by
      have hb : IntKind.i64.bits = 64 := rfl
      have hsg : IntKind.i64.signed = true := rfl
      unfold IntKind.wrap
      rw [hb, hsg]
      simp
      rw [if_neg (by omega)]
      omega
    have wc : IntKind.i64.wrap c = c := by
      have hb : IntKind.i64.bits = 64 := rfl
      have hsg : IntKind.i64.signed = true := rfl
      unfold IntKind.wrap
      rw [hb, hsg]
      simp
      rw [if_neg (by omega)]
      omega
    have hrow : ∀ zr : Array Value, (c.toNat * i.size ≠ 0 → zr = z.cells) → ((Array.range (c.toNat * i.size)).map fun j => zr[j % zr.size]!) = (zeros z.cells.toList c.toNat).toArray := by
      intro zr hzr
      apply Array.toList_inj.1
      by_cases hc0 : c.toNat * i.size = 0
      · have : c.toNat = 0 := by rcases Nat.mul_eq_zero.1 hc0 with h | h <;> omega
        rw [this]
        simp [zeros]
      · rw [hzr hc0]
        have := zeros_eq z.cells (by omega) c.toNat
        rw [hzs] at this
        simpa [hzs] using this
    have hmul : (i.bytes : Int) * c ≤ 140737488355328 := by rw [Int.mul_comm]; exact h3
    have hrun : (execOp a.eval o).run P w = .ok (.value (.slice (some ⟨w.heap.size, 0, none⟩) l.toNat c.toNat)) { w with heap := w.heap.push (.cells (zeros z.cells.toList c.toNat).toArray e) } := by
      have hti : (typeInfo e).run P w = .ok i w := by simp [typeInfo, hi]
      simp only [execOp, ho, ex, ey, Instr.makeSlice, asInt, asIntOf, Sem.run_bind, run_und hd, Result.andThen_ok, Sem.run_pure, hti, wl, wc, run_sz hs, run_askRoom]
      have e1 : (decide (c < 0) || decide ((i.bytes : Int) * c > 2 ^ 48)) = false := by simp; omega
      have e2 : decide (l < 0) = false := by simp; omega
      have e3 : decide (l > c) = false := by simp; omega
      simp only [e1, e2, e3, Bool.or_false, Bool.false_eq_true, if_false, Sem.run_bind, Sem.run_pure, Result.andThen_ok, run_askRoom, run_sz hs]
      by_cases hc0 : c.toNat * i.size = 0
      · rw [if_pos hc0]
        simp only [Sem.run_bind, Sem.run_pure, Result.andThen_ok, hrow #[] (fun h => absurd hc0 h), newRow_run]
      · rw [if_neg hc0]
        simp only [Sem.run_bind, Sem.run_pure, Result.andThen_ok, run_zeroT hzt, hrow z.cells (fun _ => rfl), newRow_run]
    have hcl : (zeros z.cells.toList c.toNat).toArray.size = c.toNat * i.size := by simp [zeros_len, hzs]
    refine wp_value hrun (hnx _ _ _ (Post.new (w' := { w with heap := w.heap.push (.cells (zeros z.cells.toList c.toNat).toArray e) }) (cs := zeros z.cells.toList c.toNat) (cur := (zeros z.cells.toList c.toNat).toArray) (lo := 0) (hi := 0) hpre rfl rfl rfl rfl FzOk.none (by simp) (by
      rw [List.take_of_length_le (by simp)]
      exact CR.of ((flat_L2 (zeros_flat hzf _)).2 rfl) (by rw [zeros_flat hzf]; simp)) _) ?_)
    exact named_slice (Nat.le_refl _) (by omega) (by rw [hs, hcl]; rfl)
  · exact Sat.stop
end
end Go.Proofs.Ythjlpklloioknaa.Ex
namespace Go.Proofs.Ythjlpklloioknaa.Ex
open Go
set_option linter.unusedVariables false
set_option linter.unusedSimpArgs false
section
variable {P : Program} {F : List Nat} {fr : Fr} {hp : Hp} {o : Oper}
theorem getD_set {b : Blk} {i : Nat} (id : Nat) (hi : i < hp.length) : (hp.set i b).getD id .dead = if id = i then b else hp.getD id .dead := by
  simp only [List.getD_eq_getElem?_getD, List.getElem?_set]
  by_cases c : i = id
  · subst c; simp [hi]
  · rw [if_neg c, if_neg (fun e => c e.symm)]
theorem own_lt {i : Nat} (h : (hp.getD i .dead).isOwn = true) : i < hp.length := by
  rcases Nat.lt_or_ge i hp.length with hlt | hge
  · exact hlt
  · rw [getD_out hge] at h; cases h
theorem Post.write {ν : Nu} {w w' : World} {b g S u : Nat} {e : TypeId} {cs cs' : List Value} {cur' : Array Value} {lo hi : Nat} (h : Pre P F ν hp w) (hF : b ∈ F) (hb : hp.getD b .dead = .own e cs) (hν : ν b = some ⟨g, 0, S, u⟩) (hS : cur'.size = S) (hu : u = (sz P e).getD 0)
    (hg : w'.heap[g]? = some (.cells cur' e (lo, hi))) (ho : ∀ k, k ≠ g → w'.heap[k]? = w.heap[k]?) (hs : w'.heap.size = w.heap.size) (h1 : w'.os = w.os) (h2 : w'.tape = w.tape) (h3 : w'.output = w.output)
    (hnf : FzOk P e cur'.size lo hi) (hl : cs'.length ≤ cur'.size) (hc : L2 (CR P ν e) cs' (cur'.toList.take cs'.length)) (v : Value) :
    Post P F ν hp w ⟨v, hp.set b (.own e cs'), [b]⟩ ν w' := by
  have hbo : (hp.getD b .dead).isOwn = true := by rw [hb]; rfl
  have hbl := own_lt hbo
  have st : ∀ id, (((hp.set b (Blk.own e cs')).getD id .dead).isOwn = true → (hp.getD id .dead).isOwn = true) ∧ (((hp.set b (Blk.own e cs')).getD id .dead).live = true → (hp.getD id .dead).live = true) := by
    intro id
    rw [getD_set id hbl]
    split
    · rename_i ei; subst ei; rw [hb]; exact ⟨fun _ => rfl, fun _ => rfl⟩
    · exact ⟨fun h => h, fun h => h⟩
  have outF : ∀ id, hp.length ≤ id → (hp.set b (Blk.own e cs')).getD id .dead = .dead := fun id hid => by rw [getD_set id hbl, if_neg (by omega), getD_out hid]
  refine ⟨fun _ _ => rfl, fun id hid => h.dom id (by simpa using hid), fun id hid => ?_, fun i j N K hne hi' hj' ho' hlv hN hK => ?_, h1, h2, h3, by omega, fun k hk hw => ?_, fun id N hid hlv _ => ?_⟩
  · show RepBlk P ν w' id ((hp.set b (Blk.own e cs')).getD id .dead)
    rw [getD_set id hbl]
    split
    · rename_i ei
      subst ei
      exact ⟨g, cur', lo, hi, by rw [hν, hS, hu], hg, hnf, hl, hc⟩
    · rename_i ei
      rcases hid with hid | hid
      · have hbk := h.blk id hid
        refine hbk.le (Le.refl ν) (fun N hN hlive => ho _ fun eg => ?_) (by omega)
        exact h.sep b id _ N (fun e => ei e.symm) hF hid hbo hlive hν hN eg.symm
      · rw [getD_out hid]; trivial
  · have ci := (st i).1 ho'
    have cj := (st j).2 hlv
    have hiF : i ∈ F := hi'.resolve_right (by have := own_lt ci; omega)
    have hjF : j ∈ F := by
      rcases hj' with hj | hj
      · exact hj
      · rw [getD_out hj] at cj; cases cj
    exact h.sep i j N K hne hiF hjF ci cj hN hK
  · exact ho k fun ek => hw b _ (List.mem_singleton.2 rfl) hν ek.symm
  · change ((hp.set b (Blk.own e cs')).getD id .dead).live = true at hlv
    rw [outF id hid] at hlv
    cases hlv
theorem Shape.write {v : Value} {b : Nat} {e : TypeId} {cs cs' : List Value} (hF : b ∈ F) (hb : hp.getD b .dead = .own e cs) : Shape F hp ⟨v, hp.set b (.own e cs'), [b]⟩ := by
  have hbo : (hp.getD b .dead).isOwn = true := by rw [hb]; rfl
  have hbl := own_lt hbo
  refine ⟨by simp, fun id hid => ?_, fun id hid => ?_, fun id hid hn => ?_⟩
  · rw [List.mem_singleton.1 hid]; exact ⟨hF, hbl⟩
  · rw [List.mem_singleton.1 hid]; exact hbo
  · show (hp.set b _).getD id .dead = _
    rw [getD_set id hbl, if_neg (fun e => hn (by rw [e]; exact List.mem_singleton.2 rfl))]
theorem Post.moved {ν : Nu} {w w' : World} {b g g' S u : Nat} {e : TypeId} {cs cs' : List Value} {cur' : Array Value} {lo hi : Nat} (h : Pre P F ν hp w) (hF : b ∈ F) (hb : hp.getD b .dead = .own e cs) (hν : ν b = some ⟨g, 0, S, u⟩)
    (hg : w'.heap[g']? = some (.cells cur' e (lo, hi))) (hgg : g' = g ∨ w.heap.size ≤ g') (ho : ∀ k, k < w.heap.size → k ≠ g → w'.heap[k]? = w.heap[k]?) (hs : w.heap.size ≤ w'.heap.size) (h1 : w'.os = w.os) (h2 : w'.tape = w.tape) (h3 : w'.output = w.output)
    (hnf : FzOk P e cur'.size lo hi) (hl : cs'.length ≤ cur'.size) (hc : L2 (CR P ν e) cs' (cur'.toList.take cs'.length)) (v : Value) :
    Post P F ν hp w ⟨v, hp.set b .dead ++ [.own e cs'], [b]⟩ (named ν hp.length ⟨g', 0, cur'.size, (sz P e).getD 0⟩) w' := by
  have hbo : (hp.getD b .dead).isOwn = true := by rw [hb]; rfl
  have hbl := own_lt hbo
  have le : Le ν (named ν hp.length ⟨g', 0, cur'.size, (sz P e).getD 0⟩) := named_le (h.dom _ (Nat.le_refl _))
  have hgl : g < w.heap.size := by
    have := h.blk b hF
    rw [hb] at this
    exact this.lt rfl hν
  have gD : ∀ id, (hp.set b Blk.dead ++ [Blk.own e cs']).getD id .dead = if id = b then .dead else if id < hp.length then hp.getD id .dead else if id = hp.length then .own e cs' else .dead := by
    intro id
    rw [getD_snoc, List.length_set]
    by_cases c1 : id < hp.length
    · rw [if_pos c1, getD_set id hbl, if_pos c1]
    · rw [if_neg c1, if_neg c1]
      by_cases c2 : id = b
      · omega
      · rw [if_neg c2]
  have nN : ∀ k, k < hp.length → named ν hp.length ⟨g', 0, cur'.size, (sz P e).getD 0⟩ k = ν k := fun k hk => by unfold named; rw [if_neg (by omega)]
  have old : ∀ k M, k < hp.length → k ≠ b → (k ∈ F ∨ hp.length ≤ k) → (hp.getD k .dead).live = true → named ν hp.length ⟨g', 0, cur'.size, (sz P e).getD 0⟩ k = some M → ν k = some M ∧ M.g < w.heap.size ∧ k ∈ F ∧ M.g ≠ g := by
    intro k M hk hkb hkF hkl hM
    rw [nN k hk] at hM
    have hF' := hkF.resolve_right (by omega)
    exact ⟨hM, (h.blk k hF').lt hkl hM, hF', fun eg => h.sep b k _ M (fun e => hkb e.symm) hF hF' hbo hkl hν hM eg.symm⟩
  refine ⟨fun id hid => nN id hid, fun id hid => ?_, fun id hid => ?_, fun i j N K hne hi' hj' ho' hlv hN hK => ?_, h1, h2, h3, hs, fun k hk hw => ?_, fun id N hid hlv hN => ?_⟩
  · simp at hid
    unfold named
    rw [if_neg (by omega)]
    exact h.dom id (by omega)
  · show RepBlk P _ w' id ((hp.set b Blk.dead ++ [Blk.own e cs']).getD id .dead)
    rw [gD]
    split
    · trivial
    · rename_i cb
      split
      · rename_i c1
        have hF' : id ∈ F := hid.resolve_right (by omega)
        have hbk := h.blk id hF'
        refine hbk.le le (fun N hN hlive => ?_) hs
        exact ho _ (hbk.lt hlive hN) fun eg => h.sep b id _ N (fun e => cb e.symm) hF hF' hbo hlive hν hN eg.symm
      · split
        · rename_i c1 c2
          subst c2
          exact ⟨g', cur', lo, hi, by unfold named; rw [if_pos rfl], hg, hnf, hl, hc.mono fun _ _ => CR.le le⟩
        · trivial
  · change ((hp.set b Blk.dead ++ [Blk.own e cs']).getD i .dead).isOwn = true at ho'
    change ((hp.set b Blk.dead ++ [Blk.own e cs']).getD j .dead).live = true at hlv
    rw [gD] at ho' hlv
    have atNew : ∀ M, named ν hp.length ⟨g', 0, cur'.size, (sz P e).getD 0⟩ hp.length = some M → M.g = g' := fun M hM => by
      unfold named at hM
      rw [if_pos rfl] at hM
      cases hM
      rfl
    split at ho'
    · cases ho'
    · rename_i cib
      split at hlv
      · cases hlv
      · rename_i cjb
        split at ho'
        · rename_i ci
          obtain ⟨a1, a2, a3, a4⟩ := old i N ci cib hi' (own_live ho') hN
          split at hlv
          · rename_i cj
            obtain ⟨b1, b2, b3, b4⟩ := old j K cj cjb hj' hlv hK
            exact h.sep i j N K hne a3 b3 ho' hlv a1 b1
          · split at hlv
            · rename_i ej
              subst ej
              rw [atNew K hK]
              rcases hgg with hgg | hgg
              · rw [hgg]; exact a4
              · omega
            · cases hlv
        · split at ho'
          · rename_i ei
            subst ei
            rw [atNew N hN]
            split at hlv
            · rename_i cj
              obtain ⟨b1, b2, b3, b4⟩ := old j K cj cjb hj' hlv hK
              rcases hgg with hgg | hgg
              · rw [hgg]; exact fun e => b4 e.symm
              · omega
            · split at hlv
              · rename_i ej; exact absurd ej.symm hne
              · cases hlv
          · cases ho'
  · exact ho k hk fun ek => hw b _ (List.mem_singleton.2 rfl) hν ek.symm
  · change ((hp.set b Blk.dead ++ [Blk.own e cs']).getD id .dead).live = true at hlv
    rw [gD] at hlv
    split at hlv
    · cases hlv
    · split at hlv
      · omega
      · split at hlv
        · rename_i ei
          subst ei
          unfold named at hN
          rw [if_pos rfl] at hN
          cases hN
          rcases hgg with hgg | hgg
          · exact .inr ⟨b, _, List.mem_singleton.2 rfl, hν, hgg.symm⟩
          · exact .inl hgg
        · cases hlv
theorem Shape.moved {v : Value} {b : Nat} {e : TypeId} {cs cs' : List Value} (hF : b ∈ F) (hb : hp.getD b .dead = .own e cs) : Shape F hp ⟨v, hp.set b .dead ++ [.own e cs'], [b]⟩ := by
  have hbo : (hp.getD b .dead).isOwn = true := by rw [hb]; rfl
  have hbl := own_lt hbo
  refine ⟨by simp, fun id hid => ?_, fun id hid => ?_, fun id hid hn => ?_⟩
  · rw [List.mem_singleton.1 hid]; exact ⟨hF, hbl⟩
  · rw [List.mem_singleton.1 hid]; exact hbo
  · show (hp.set b .dead ++ [Blk.own e cs']).getD id .dead = _
    rw [getD_snoc, List.length_set, if_pos hid, getD_set id hbl, if_neg (fun e => hn (by rw [e]; exact List.mem_singleton.2 rfl))]
theorem VR1.one {ν : Nu} {v v' : Value} (h : VR1 ν v v') : v'.oneCell' = true := by
  cases v with
  | func fn f c => obtain ⟨_, _, rfl, _⟩ := h; rfl
  | pointer a => cases a with
    | none => cases h; rfl
    | some a => obtain ⟨_, _, _, rfl⟩ := h; rfl
  | slice a l c => cases a with
    | some a => obtain ⟨_, _, rfl, _⟩ := h; rfl
    | none => cases l <;> cases c <;> simp [VR1, VR0] at h; subst h; rfl
  | map r => cases r <;> simp [VR1, VR0] at h; subst h; rfl
  | bool b => cases h; rfl
  | int k n => cases h; rfl
  | string s => cases h; rfl
  | nilFunc => cases h; rfl
  | nilIface => cases h; rfl
  | _ => simp [VR1, VR0] at h
theorem L2.ones {ν : Nu} {l m : List Value} (h : L2 (VR1 ν) l m) : ∀ v ∈ m, v.oneCell' = true := by
  induction h with
  | nil => simp
  | cons h _ ih =>
    intro v hv
    rcases List.mem_cons.1 hv with rfl | hv
    · exact h.one
    · exact ih v hv
theorem setCell_heap {w : World} {g i : Nat} {cur : Array Value} {e : TypeId} {fz : Nat × Nat} {v : Value} (hg : w.heap[g]? = some (.cells cur e fz)) :
    (w.setCell ⟨g, i, none⟩ v).heap[g]? = some (.cells (cur.setIfInBounds i v) e fz) ∧ (∀ k, k ≠ g → (w.setCell ⟨g, i, none⟩ v).heap[k]? = w.heap[k]?) ∧ (w.setCell ⟨g, i, none⟩ v).heap.size = w.heap.size := by
  refine ⟨?_, fun k hk => ?_, ?_⟩
  · simp [World.setCell, Array.getElem?_modify, hg]
  · have hne : ¬ g = k := fun e => hk e.symm
    simp [World.setCell, Array.getElem?_modify, hne]
  · simp [World.setCell]
theorem storeCells_run {g off : Nat} {e : TypeId} {fz : Nat × Nat} : ∀ (vs : List Value) (i : Nat) (cur : Array Value) (w : World), w.heap[g]? = some (.cells cur e fz) → off + i + vs.length ≤ cur.size →
    (∀ o, o < cur.size → ¬ (fz.1 ≤ o ∧ o < fz.2)) → (∀ v ∈ vs, v.oneCell' = true) → ∃ w', (storeCells ⟨g, off, none⟩ vs i).run P w = .ok () w' ∧ w'.heap[g]? = some (.cells (put cur.toList (off + i) vs).toArray e fz) ∧
      (∀ k, k ≠ g → w'.heap[k]? = w.heap[k]?) ∧ w'.heap.size = w.heap.size ∧ w'.os = w.os ∧ w'.tape = w.tape ∧ w'.output = w.output
  | [], i, cur, w, hg, _, _, _ => ⟨w, rfl, by simpa [put] using hg, fun _ _ => rfl, rfl, rfl, rfl, rfl⟩
  | v :: rest, i, cur, w, hg, hl, hnf, h1 => by
    have hi : off + i < cur.size := by simp at hl; omega
    have hadd : (⟨g, off, none⟩ : Addr).add i = ⟨g, off + i, none⟩ := by unfold Addr.add; split <;> simp_all
    have hcell : w.cell? ⟨g, off + i, none⟩ = some cur[off + i] := by simp [World.cell?, hg, hi]
    have hfro : w.frozen? ⟨g, off + i, none⟩ = false := by
      have := hnf _ hi
      obtain ⟨a, b⟩ := fz
      simp only [World.frozen?, hg]
      simp at this ⊢
      omega
    have hst : (store ((⟨g, off, none⟩ : Addr).add i) v).run P w = .ok () (w.setCell ⟨g, off + i, none⟩ v) := by
      rw [hadd, run_store P w _ v _ (h1 v (by simp)), hcell]
      simp [hfro]
    obtain ⟨s1, s2, s3⟩ := setCell_heap (i := off + i) (v := v) hg
    obtain ⟨w', k1, k2, k3, k4, k5, k6, k7⟩ := storeCells_run (off := off) rest (i + 1) (cur.setIfInBounds (off + i) v) (w.setCell ⟨g, off + i, none⟩ v) s1 (by simp at hl ⊢; omega) (by simpa using hnf) (fun x hx => h1 x (by simp [hx]))
    refine ⟨w', ?_, ?_, fun k hk => (k3 k hk).trans (s2 k hk), k4.trans s3, k5, k6, k7⟩
    · simp only [storeCells, Sem.run_bind, hst, Result.andThen_ok, k1]
    · rw [k2]
      simp [put, Nat.add_assoc]
theorem put_len : ∀ (vs cs : List Value) (o : Nat), (put cs o vs).length = cs.length
  | [], _, _ => rfl
  | v :: vs, cs, o => by rw [put, put_len vs]; simp
theorem put_take : ∀ (vs cs : List Value) (o n : Nat), o + vs.length ≤ n → (put cs o vs).take n = put (cs.take n) o vs
  | [], _, _, _, _ => rfl
  | v :: vs, cs, o, n, h => by
    simp only [List.length_cons] at h
    rw [put, put, put_take vs _ _ _ (by omega), List.take_set]
theorem wr_sat {b off : Nat} {vs : List Value} {fl : Bool} {v : Value} (hF : b ∈ F) (hk : ∀ hp', (∃ e cs, hp.getD b .dead = .own e cs ∧ off + vs.length ≤ cs.length ∧ (!flatT P 6 e || fl) = true ∧ hp' = hp.set b (.own e (put cs off vs))) → OpOk P F fr hp o ⟨v, hp', [b]⟩) :
    Sat ((wrN P hp b off fl vs).map fun hp => (⟨v, hp, [b]⟩ : Res)) (OpOk P F fr hp o) := by
  apply Sat.map
  unfold wrN
  split
  · rename_i e cs he
    refine Sat.bind_chk fun hc => Sat.ret _ (hk _ ⟨e, cs, he, ?_, ?_, rfl⟩)
    · simp only [Bool.and_eq_true, decide_eq_true_eq] at hc; exact hc.1
    · simp only [Bool.and_eq_true] at hc; exact hc.2
  · exact Sat.stop
theorem write_ok {ν : Nu} {w : World} {b off : Nat} {e : TypeId} {cs vs vs' : List Value} (h : Pre P F ν hp w) (hF : b ∈ F) (hb : hp.getD b .dead = .own e cs) (hl : off + vs.length ≤ cs.length) (hv : L2 (CR P ν e) vs vs') (v : Value) :
    ∃ N w', ν b = some N ∧ (storeCells (N.at off) vs').run P w = .ok () w' ∧ Post P F ν hp w ⟨v, hp.set b (.own e (put cs off vs)), [b]⟩ ν w' := by
  have hbk := h.blk b hF
  rw [hb] at hbk
  obtain ⟨g, cur, lo, hi, h1, h2, h3, h4, h5⟩ := hbk
  have hvl := hv.len
  obtain ⟨w', k1, k2, k3, k4, k5, k6, k7⟩ := storeCells_run (P := P) (off := off) vs' 0 cur w h2 (by omega) h3.1 (L2.ones (hv.mono fun _ _ hh => hh.1))
  have hat : (⟨g, 0, cur.size, (sz P e).getD 0⟩ : Nm).at off = ⟨g, off, none⟩ := by simp [Nm.at]
  refine ⟨_, w', h1, by rw [hat]; exact k1, ?_⟩
  refine Post.write (cur' := (put cur.toList off vs').toArray) (lo := lo) (hi := hi) h hF hb h1 (by simp [put_len]) rfl (by simpa using k2) k3 k4 k5 k6 k7 (by simpa [put_len] using h3) (by simpa [put_len] using h4) ?_ v
  rw [put_len, List.toList_toArray, put_take _ _ _ _ (by omega)]
  have := L2.len h5
  have pl : ∀ {vs vs' : List Value} {cs cs' : List Value} (o : Nat), L2 (CR P ν e) vs vs' → L2 (CR P ν e) cs cs' → L2 (CR P ν e) (put cs o vs) (put cs' o vs') := fun o => put_L2 o
  exact pl off hv h5
theorem store_sat {t : TypeId} {x y : Operand} {av v : Value} (ho : o.op = .store t x y) (ha : val fr x = some av) (hv : val fr y = some v) (hF : ∀ id, id ∈ idsV av → id ∈ F) (hlv : lvlC v = true) : Sat (storeA P hp t av v) (OpOk P F fr hp o) := by
  unfold storeA
  split
  · rename_i b off
    have hbF : b ∈ F := hF b (by simp [idsV, idsVC, idsV1])
    refine Sat.bind_lift fun n hn => Sat.bind_chk fun hsz => wr_sat hbF ?_
    rintro hp' ⟨e, cs, he, hl, hf, rfl⟩
    refine ⟨Shape.write hbF he, fun ν a w henv hpre next Q hnx => ?_⟩
    obtain ⟨N0, h1, h2⟩ := VR.ptr (henv x (by simp [ho, Op.operands]) _ ha)
    have hcells := ((henv y (by simp [ho, Op.operands]) _ hv).toC hlv).cells
    have hcl := hcells.len
    obtain ⟨N, w', k1, k2, k3⟩ := write_ok (v := undef) hpre hbF he hl (CR.of hcells hf)
    rw [h1] at k1
    cases k1
    simp only [beq_iff_eq] at hsz
    have hsz' : (a.eval y).cells.size = n := by simp at hcl; omega
    have hrun : (execOp a.eval o).run P w = .ok .skip w' := by
      simp only [execOp, ho, h2, Instr.storeAt, Instr.sureAddr, storeVar, Sem.run_bind, Sem.run_pure, Result.andThen_ok, run_sz hn, hsz', ne_eq, not_true_eq_false, if_false, k2]
    exact wp_skip_ hrun (hnx ν undef w' k3 ⟨_, rfl, .nil⟩)
  · exact Sat.stop
end
end Go.Proofs.Ythjlpklloioknaa.Ex
end
section
set_option linter.unusedSectionVars false
set_option linter.unusedSimpArgs false
set_option linter.unusedVariables false
namespace Go.Proofs.Ythjlpklloioknaa.Ex
open Go
set_option linter.unusedVariables false
set_option linter.unusedSimpArgs false
section
variable {P : Program} {F : List Nat} {fr : Fr} {hp : Hp} {o : Oper}
/-- What the elements of a slice or a string are. -/
structure News (P : Program) (ν : Nu) (w : World) (n : Nat) (v' : Value) (m : Nat) (cs : List Value) (fl : Bool) (cs' : List Value) : Prop where
  rel : L2 (VR1 ν) cs cs'
  flat : fl = true → cs.all flat1 = true
  len : cs.length = m * n
  lenOf : ∀ W, (Builtin.lenOf v').run P W = .ok m W
  first : ∀ W : World, W.heap = w.heap → ∀ k, k ≤ m → (Builtin.firstCells n k v').run P W = .ok (cs'.take (k * n)).toArray W
theorem CR.flat_all {ν : Nu} {e : TypeId} {l m : List Value} (h : L2 (CR P ν e) l m) (hf : flatT P 6 e = true) : l.all flat1 = true := by
  induction h with
  | nil => rfl
  | cons h _ ih => simp only [List.all_cons, h.2 hf, ih, Bool.and_self]
theorem all_slice {l : List Value} (h : l.all flat1 = true) (o n : Nat) : ((l.drop o).take n).all flat1 = true :=
  List.all_eq_true.2 fun x hx => List.all_eq_true.1 h x (List.mem_of_mem_drop (List.mem_of_mem_take hx))
theorem string_cells (s : ByteArray) (k : Nat) (h : k ≤ s.size) : ((s.extract 0 k).data.map fun b : UInt8 => Value.int .u8 b.toNat) = ((bytesOf s).take k).toArray := by
  apply Array.toList_inj.1
  unfold bytesOf
  rw [Array.toList_map, ByteArray.data_extract, Array.toList_extract]
  simp [List.extract, List.map_take]
theorem news_sat {n : Nat} {v : Value} (hF : ∀ id, id ∈ idsV v → id ∈ F) : Sat (newsA P hp n v) fun r => ∀ ν (w : World), Pre P F ν hp w → ∀ v', VR ν v v' → ∃ cs', News P ν w n v' r.1 r.2.1 r.2.2 cs' := by
  unfold newsA
  split
  · refine Sat.ret _ fun ν w hpre v' hv => ?_
    cases hv
    exact ⟨[], .nil, fun _ => rfl, by simp, fun _ => rfl, fun W _ k hk => by obtain rfl : k = 0 := by omega
                                                                             simp [Builtin.firstCells]⟩
  · rename_i b off len c
    have hbF : b ∈ F := hF b (by simp [idsV, idsVC, idsV1])
    have key : ∀ (e : TypeId) (cs : List Value), cellsAt hp b = some cs → (∀ ν (w : World), RepBlk P ν w b (hp.getD b .dead) → flatT P 6 e = true → cs.all flat1 = true) → off + len * n ≤ cs.length →
        ∀ ν (w : World), Pre P F ν hp w → ∀ v', VR ν (.slice (some ⟨b, off, none⟩) len c) v' → ∃ cs', News P ν w n v' len ((cs.drop off).take (len * n)) (flatT P 6 e) cs' := by
      intro e cs hc hfl hle ν w hpre v' hv
      obtain ⟨N, cs', h1, h3, h4⟩ := (hpre.blk b hbF).read hc
      obtain ⟨a', cap', rfl, k2, k3, k4⟩ := hv
      have hl2 := h3.len
      refine ⟨(cs'.drop off).take (len * n), h3.slice off _, fun hf => all_slice (hfl ν w (hpre.blk b hbF) hf) _ _, ?_, fun _ => rfl, fun W hW k hk => ?_⟩
      · rw [List.length_take, List.length_drop]; omega
      · have hkn : k * n ≤ len * n := Nat.mul_le_mul_right _ hk
        rw [List.take_take, Nat.min_eq_left hkn]
        by_cases hp0 : 0 < cap'
        · obtain ⟨N', m1, _, rfl, _⟩ := k4 hp0
          change ν b = some N' at m1
          rw [h1] at m1
          cases m1
          have hrow : ∀ j v, ((cs'.drop off).take (k * n))[j]? = some v → W.cell? ((N.at off).add j) = some v := by
            intro j v hj
            rw [at_add]
            rw [List.getElem?_take] at hj
            split at hj
            · rw [List.getElem?_drop] at hj
              have := h4 (off + j) v hj
              unfold World.cell? at this ⊢
              rw [hW]
              exact this
            · cases hj
          have hr := run_loadCells_list (P := P) (w := W) (N.at off) _ hrow
          have hll : ((cs'.drop off).take (k * n)).length = k * n := by
            rw [List.length_take, List.length_drop, ← hl2]; omega
          rw [hll] at hr
          exact hr
        · obtain rfl : k = 0 := by omega
          simp [Builtin.firstCells, loadCells, loadCellsFrom]
    split
    · rename_i e cs he
      refine Sat.bind_chk fun hc => Sat.ret _ (key e cs (by unfold cellsAt; rw [he]) ?_ (by simpa using hc))
      intro ν w hr hf
      rw [he] at hr
      obtain ⟨g, cur, lo, hi, _, _, _, _, h5⟩ := hr
      exact CR.flat_all h5 hf
    · rename_i e cs he
      refine Sat.bind_chk fun hc => Sat.ret _ (key e cs (by unfold cellsAt; rw [he]) ?_ (by simpa using hc))
      intro ν w hr hf
      rw [he] at hr
      obtain ⟨N, _, _, _, cs', h5, _⟩ := hr
      exact CR.flat_all h5 hf
    · refine Sat.bind_chk fun hc => Sat.ret _ fun ν w hpre v' hv => ?_
      obtain rfl : len = 0 := Nat.eq_of_beq_eq_true hc
      obtain ⟨a', cap', rfl, k2, k3, k4⟩ := hv
      exact ⟨[], .nil, fun _ => rfl, by simp, fun _ => rfl, fun W _ k hk => by
        obtain rfl : k = 0 := by omega
        simp [Builtin.firstCells, loadCells, loadCellsFrom]⟩
  · rename_i s
    refine Sat.bind_chk fun hn => Sat.ret _ fun ν w hpre v' hv => ?_
    simp only [beq_iff_eq] at hn
    subst hn
    cases hv
    have hfl : (bytesOf s).all flat1 = true := List.all_eq_true.2 fun x hx => by
      unfold bytesOf at hx
      obtain ⟨b, _, rfl⟩ := List.mem_map.1 hx
      rfl
    refine ⟨bytesOf s, (flat_L2 hfl).2 rfl, fun _ => hfl, by simp [bytesOf], fun _ => rfl, fun W _ k hk => ?_⟩
    simp only [Builtin.firstCells, Sem.run_pure]
    rw [string_cells s k hk, Nat.mul_one]
  · exact Sat.stop
theorem modify_push {α : Type} (l : Array α) (x : α) (f : α → α) : (l.push x).modify l.size f = l.push (f x) := by
  apply Array.ext_getElem?
  intro i
  rw [Array.getElem?_modify, Array.getElem?_push, Array.getElem?_push]
  by_cases c : i = l.size
  · subst c; simp
  · rw [if_neg c, if_neg c, if_neg (fun e => c e.symm)]
theorem toBytes_run {e : TypeId} (s : ByteArray) (w : World) : ∃ cap w', s.size ≤ cap ∧ (Conv.stringToBytes e s).run P w = .ok (.slice (some ⟨w.heap.size, 0, none⟩) s.size cap) w' ∧
    w'.heap = w.heap.push (.cells (s.data.map (fun b : UInt8 => Value.int .u8 b.toNat) ++ Array.replicate (cap - s.size) (.int .u8 0)) e (cap, cap + 1)) ∧ w'.os = w.os ∧ w'.tape = w.tape ∧ w'.output = w.output := by
  have hge := grownCap_ge w s.size 0 e
  have hsz : (s.data.map (fun b : UInt8 => Value.int .u8 b.toNat) ++ Array.replicate (grownCap w s.size 0 e - s.size) (Value.int .u8 0)).size = grownCap w s.size 0 e := by
    simp
    have : s.data.size = s.size := rfl
    omega
  have hc : (Question.appendCap s.size 0 e).cut (w.tape w.drawn (.appendCap s.size 0 e)) = grownCap w s.size 0 e := rfl
  refine ⟨grownCap w s.size 0 e, ({ w with drawn := w.drawn + 1, heap := w.heap.push (.cells (s.data.map (fun b : UInt8 => Value.int .u8 b.toNat) ++ Array.replicate (grownCap w s.size 0 e - s.size) (.int .u8 0)) e) } : World).freeze ⟨w.heap.size, grownCap w s.size 0 e, none⟩ 1, hge, ?_, ?_, rfl, rfl, rfl⟩
  · simp only [Conv.stringToBytes, Sem.run_bind, run_choose, Question.forced, Bool.false_eq_true, if_false, Result.andThen_ok, hc, newRow_run, markStringish, run_shape, World.shape?, push_new, hsz, run_freeze, Sem.run_pure]
  · simp only [World.freeze]
    rw [if_neg (by omega)]
    simp only
    rw [modify_push]
    simp
theorem conv_sat {src dst : TypeId} {x : Operand} {v : Value} (ho : o.op = .convert src dst x) (hv : val fr x = some v) (hF : ∀ id, id ∈ idsV v → id ∈ F) : Sat (convA P hp src dst v) (OpOk P F fr hp o) := by
  unfold convA
  split
  · rename_i k0 k k1 n h1 h2
    refine Sat.ret _ (OpOk.pure fun ν a w he _ => ⟨_, ?_, rfl⟩)
    have hx : a.eval x = .int k1 n := he x (by simp [ho, Op.operands]) _ hv
    simp [execOp, ho, hx, convert, run_und h1, run_und h2, Conv.intToInt]
  · rename_i s h1 h2
    refine Sat.ret _ (OpOk.pure fun ν a w he _ => ⟨.string s, ?_, rfl⟩)
    have hx : a.eval x = .string s := he x (by simp [ho, Op.operands]) _ hv
    simp [execOp, ho, hx, convert, run_und h1, run_und h2]
  · rename_i e al l c h1 h2
    split
    · rename_i h3
      refine Sat.bind (news_sat hF) fun news hn => Sat.bind_chk fun hi => Sat.ret _ (OpOk.pure fun ν a w he hpre => ⟨_, ?_, rfl⟩)
      obtain ⟨cs', N⟩ := hn ν w hpre _ (he x (by simp [ho, Op.operands]) _ hv)
      have hint : ∀ (l : List Value), l.all (isInt .u8) = true → ∃ ns : List Int, l = ns.map (Value.int .u8) := by
        intro l
        induction l with
        | nil => intro _; exact ⟨[], rfl⟩
        | cons y l ih =>
          intro h
          simp only [List.all_cons, Bool.and_eq_true] at h
          obtain ⟨ns, rfl⟩ := ih h.2
          cases y with
          | int k n => simp only [isInt, beq_iff_eq] at h; obtain ⟨rfl, _⟩ := h; exact ⟨n :: ns, rfl⟩
          | _ => simp [isInt] at h
      obtain ⟨ns, hns⟩ := hint _ hi
      have hfl : news.2.1.all flat1 = true := by rw [hns]; simp [flat1]
      have hcs : cs' = news.2.1 := (flat_L2 hfl).1 N.rel
      subst hcs
      have hstr : ∀ (ns : List Int) (r : ByteArray), ns.foldl (fun r n => r.push (UInt8.ofNat n.toNat)) r = ⟨r.data ++ (ns.map fun n => UInt8.ofNat n.toNat).toArray⟩ := by
        intro ns
        induction ns with
        | nil => intro r; simp
        | cons n ns ih =>
          intro r
          rw [List.foldl_cons, ih]
          congr 1
          apply Array.toList_inj.1
          simp [ByteArray.push]
      have hx := he x (by simp [ho, Op.operands]) _ hv
      cases al with
      | none =>
        have hx' : l = 0 ∧ c = 0 ∧ a.eval x = .slice none 0 0 := by
          cases l <;> cases c <;> simp [VR, VRC, VR1, VR0] at hx
          exact ⟨rfl, rfl, hx⟩
        obtain ⟨rfl, rfl, hx'⟩ := hx'
        have hm := N.lenOf w
        have hm0 : news.1 = 0 := by
          rw [hx'] at hm
          simp [Builtin.lenOf] at hm
          exact hm.symm
        have : news.2.1 = [] := List.length_eq_zero_iff.1 (by rw [N.len, hm0])
        rw [this]
        simp [execOp, ho, hx', convert, run_und h1, run_und h2, run_und h3, Conv.bytesToString]
        rfl
      | some ad =>
        obtain ⟨a', cap', hx', k2, k3, k4⟩ := hx
        have hm := N.lenOf w
        have hm0 : news.1 = l := by
          rw [hx'] at hm
          simp [Builtin.lenOf] at hm
          exact hm.symm
        have hld := N.first w rfl l (by omega)
        rw [hx'] at hld
        simp only [Builtin.firstCells, Nat.mul_one] at hld
        have htk : news.2.1.take l = news.2.1 := List.take_of_length_le (by rw [N.len]; omega)
        rw [htk, hns] at hld
        have hr := run_bytesToString w a' l cap' ns hld
        have hc := run_convert_bytes_string w src dst e (some a') l cap' h1 h3 h2
        simp only [execOp, ho, hx', Sem.run_bind, hc, hr, Result.andThen_ok, Sem.run_pure]
        rw [hstr, hns]
        simp [unbyte, intOf, Function.comp_def]
    · exact Sat.stop
  · rename_i e s h1 h2
    split
    · rename_i h3
      refine Sat.bind_chk fun hc => Sat.ret _ ⟨Shape.new, fun ν a w he hpre next Q hnx => ?_⟩
      simp only [Bool.and_eq_true, beq_iff_eq, decide_eq_true_eq, most] at hc
      obtain ⟨hc1, hc2⟩ := hc
      have hx : a.eval x = .string s := he x (by simp [ho, Op.operands]) _ hv
      obtain ⟨cap, w', hge, hr, hh, h4, h5, h6⟩ := toBytes_run (P := P) (e := e) s w
      have hrun : (execOp a.eval o).run P w = .ok (.value (.slice (some ⟨w.heap.size, 0, none⟩) s.size cap)) w' := by
        simp only [execOp, ho, hx, convert, Sem.run_bind, run_und h1, run_und h2, Result.andThen_ok, run_und h3, hr, Sem.run_pure]
      have hds : s.data.size = s.size := rfl
      have hsz : (s.data.map (fun b : UInt8 => Value.int .u8 b.toNat) ++ Array.replicate (cap - s.size) (Value.int .u8 0)).size = cap := by
        simp
        omega
      have hfl : (bytesOf s).all flat1 = true := List.all_eq_true.2 fun x hx => by
        unfold bytesOf at hx
        obtain ⟨b, _, rfl⟩ := List.mem_map.1 hx
        rfl
      have htk : (s.data.map (fun b : UInt8 => Value.int .u8 b.toNat) ++ Array.replicate (cap - s.size) (Value.int .u8 0)).toList.take (bytesOf s).length = bytesOf s := by
        unfold bytesOf
        rw [Array.toList_append, Array.toList_map]
        exact List.take_left
      refine wp_value hrun (hnx _ _ _ (Post.new (w' := w') (cs := bytesOf s) hpre hh h4 h5 h6 ⟨fun o ho' hh' => by rw [hsz] at ho'; omega, fun hn => absurd (by assumption) hn⟩ (by rw [hsz]; simp [bytesOf]; omega) (by
        rw [htk]
        exact CR.of ((flat_L2 hfl).2 rfl) (by rw [hfl]; simp)) _) ?_)
      exact named_slice hge hge (by rw [hc2, hsz]; simp)
    · exact Sat.stop
  · exact Sat.stop
end
end Go.Proofs.Ythjlpklloioknaa.Ex
namespace Go.Proofs.Ythjlpklloioknaa.Ex
open Go
set_option linter.unusedVariables false
set_option linter.unusedSimpArgs false
section
variable {P : Program} {F : List Nat} {fr : Fr} {hp : Hp} {o : Oper}
theorem grow_run {ts : Array TypeId} {t t2 e ty : TypeId} {i : TypeInfo} {z : Value} (h0 : ts[0]? = some t) (h1 : ts[1]? = some t2) (ht : P.underlying t = some (.slice e))
    (h2 : (∃ e2, P.underlying t2 = some (.slice e2)) ∨ P.underlying t2 = some .string) (hi : P.info? e = some i) (hz : i.zero = some z) {base : Option Addr} {l cap n : Nat} {x : Value} {olds news : List Value} (w : World)
    (hlen : ∀ W, (Builtin.lenOf x).run P W = .ok n W) (hold : ∀ W : World, W.heap = w.heap → (Builtin.firstCells i.size l (.slice base l cap)).run P W = .ok olds.toArray W)
    (hnew : ∀ W : World, W.heap = w.heap → (Builtin.firstCells i.size n x).run P W = .ok news.toArray W) (hg : cap < l + n) (h63 : ((l + n : Nat) : Int) ≤ 9223372036854775807) (hfit : Builtin.nextslicecap (l + n) cap * i.bytes ≤ 281474976710656) :
    (Builtin.append_ ts ty #[.slice base l cap, x]).run P w = .ok (.slice (some ⟨w.heap.size, 0, none⟩) (l + n) (grownCap w (l + n) cap e))
      (w.drew.alloc (.cells (olds.toArray ++ news.toArray ++ Builtin.zeroCells z.cells (grownCap w (l + n) cap e - (l + n))) e)) := by
  have hn : ¬ (l + n ≤ cap) := by omega
  have h63' : ¬ (9223372036854775807 < ((l : Int) + (n : Int))) := by omega
  have h48' : ¬ (281474976710656 < Builtin.nextslicecap (l + n) cap * i.bytes) := by omega
  have hf := hnew w.drew rfl
  have hfo := hold w.drew rfl
  rcases h2 with ⟨e2, h2⟩ | h2
  · simp [Builtin.append_, h0, h1, run_underlying ht, run_underlying h2, sizeOf, typeInfo, zeroValue, hi, hz, hlen, hn, h63', h48', Question.forced, hf, hfo, newRow, grownCap]
    congr 2
    apply Array.ext'
    simp [List.append_assoc]
  · simp [Builtin.append_, h0, h1, run_underlying ht, run_underlying h2, sizeOf, typeInfo, zeroValue, hi, hz, hlen, hn, h63', h48', Question.forced, hf, hfo, newRow, grownCap]
    congr 2
    apply Array.ext'
    simp [List.append_assoc]
theorem room_run {ts : Array TypeId} {t t2 e ty : TypeId} {i : TypeInfo} (h0 : ts[0]? = some t) (h1 : ts[1]? = some t2) (ht : P.underlying t = some (.slice e))
    (h2 : (∃ e2, P.underlying t2 = some (.slice e2)) ∨ P.underlying t2 = some .string) (hi : P.info? e = some i) {a : Addr} {l cap n : Nat} {x : Value} {news : List Value} {w w' : World}
    (hlen : ∀ W, (Builtin.lenOf x).run P W = .ok n W) (hnew : (Builtin.firstCells i.size n x).run P w = .ok news.toArray w) (hg : l + n ≤ cap)
    (hst : (storeCells (a.add (l * i.size)) news).run P w = .ok () w') :
    (Builtin.append_ ts ty #[.slice (some a) l cap, x]).run P w = .ok (.slice (some a) (l + n) cap) w' := by
  rcases h2 with ⟨e2, h2⟩ | h2
  · simp [Builtin.append_, h0, h1, run_underlying ht, run_underlying h2, sizeOf, typeInfo, hi, hlen, hg, hnew, hst]
  · simp [Builtin.append_, h0, h1, run_underlying ht, run_underlying h2, sizeOf, typeInfo, hi, hlen, hg, hnew, hst]
theorem none_run {ts : Array TypeId} {t t2 e ty : TypeId} {i : TypeInfo} (h0 : ts[0]? = some t) (h1 : ts[1]? = some t2) (ht : P.underlying t = some (.slice e))
    (h2 : (∃ e2, P.underlying t2 = some (.slice e2)) ∨ P.underlying t2 = some .string) (hi : P.info? e = some i) {x : Value} {news : List Value} {w : World}
    (hlen : ∀ W, (Builtin.lenOf x).run P W = .ok 0 W) (hnew : (Builtin.firstCells i.size 0 x).run P w = .ok news.toArray w) :
    (Builtin.append_ ts ty #[.slice none 0 0, x]).run P w = .ok (.slice none 0 0) w := by
  rcases h2 with ⟨e2, h2⟩ | h2
  · simp [Builtin.append_, h0, h1, run_underlying ht, run_underlying h2, sizeOf, typeInfo, hi, hlen, hnew]
  · simp [Builtin.append_, h0, h1, run_underlying ht, run_underlying h2, sizeOf, typeInfo, hi, hlen, hnew]
theorem put_end : ∀ (vs cs : List Value), cs.length ≤ cs.length → ∀ tl : List Value, vs.length ≤ tl.length → (put (cs ++ tl) cs.length vs).take (cs.length + vs.length) = cs ++ vs
  | [], cs, _, tl, _ => by simp [put]
  | v :: vs, cs, _, [], h => by simp at h
  | v :: vs, cs, _, x :: tl, h => by
    have ih := put_end vs (cs ++ [v]) (Nat.le_refl _) tl (by simpa using h)
    have e1 : (cs ++ x :: tl).set cs.length v = cs ++ [v] ++ tl := by
      rw [List.set_append_right _ _ (Nat.le_refl _)]
      simp
    rw [put, e1]
    have e2 : cs.length + (v :: vs).length = (cs ++ [v]).length + vs.length := by simp; omega
    rw [e2]
    have e3 : cs.length + 1 = (cs ++ [v]).length := by simp
    rw [e3, ih]
    simp
theorem put_at_end (vs l : List Value) (n : Nat) (h : n + vs.length ≤ l.length) : (put l n vs).take (n + vs.length) = l.take n ++ vs := by
  have h1 : (l.take n).length = n := by rw [List.length_take]; omega
  have := put_end vs (l.take n) (Nat.le_refl _) (l.drop n) (by rw [List.length_drop]; omega)
  rw [h1, List.take_append_drop] at this
  exact this
theorem append_sat {ts as : Array TypeId} {xs : Array Operand} {t t2 : TypeId} {s v : Value} (ho : o.op = .call { callee := .builtin .append, args := xs, argTypes := ts }) (h0 : ts[0]? = some t) (h1 : ts[1]? = some t2)
    (h2 : (∃ e2, P.underlying t2 = some (.slice e2)) ∨ P.underlying t2 = some .string) (hvs : vals fr xs.toList = some [s, v]) (hFs : ∀ id, id ∈ idsV s → id ∈ F) (hF : ∀ id, id ∈ idsV v → id ∈ F) : Sat (appendA P hp t s v) (OpOk P F fr hp o) := by
  obtain ⟨x, y, rfl, hx, hy⟩ := vals_two hvs
  unfold appendA
  split
  · rename_i e ht
    refine Sat.bind_lift fun i hi => Sat.bind_lift fun z hz => Sat.bind (news_sat hF) fun news hn => Sat.bind_chk fun hc => ?_
    simp only [Bool.and_eq_true, beq_iff_eq, decide_eq_true_eq] at hc
    obtain ⟨⟨⟨hzs, hi0⟩, hb0⟩, hfl⟩ := hc
    have hsz : sz P e = some i.size := by unfold sz; rw [hi]; rfl
    have hex : ∀ (a : Act) (w w' : World) (r : Value), (∀ ty, (Builtin.append_ ts ty #[a.eval x, a.eval y]).run P w = .ok r w') → (execOp a.eval o).run P w = .ok (.value r) w' := by
      intro a w w' r hr
      simp only [execOp, ho, resolve, invoke, builtin, Sem.run_bind, Result.andThen_ok, Sem.run_pure, List.map_toArray, List.map_cons, List.map_nil, hr]
    split
    · refine Sat.bind_chk fun hm => Sat.bind_ask ?_
      simp only [Bool.and_eq_true, decide_eq_true_eq, most] at hm
      obtain ⟨hm1, hm2⟩ := hm
      replace hm1 : news.1 * i.bytes ≤ 140737488355328 := of_decide_eq_true hm1
      replace hm2 : news.1 ≤ 140737488355328 := of_decide_eq_true hm2
      split
      · rename_i hb
        replace hb := of_decide_eq_true hb
        refine Sat.ret _ (OpOk.pure fun ν a w he hpre => ⟨.slice none 0 0, ?_, rfl⟩)
        obtain ⟨cs', N⟩ := hn ν w hpre _ (he y (by simp [ho, Op.operands, Call.operands]) _ hy)
        have ex : a.eval x = .slice none 0 0 := he x (by simp [ho, Op.operands, Call.operands]) _ hx
        have hl := N.lenOf
        rw [hb] at hl
        exact hex a w w _ fun ty => by rw [ex]; exact none_run h0 h1 ht h2 hi hl (N.first w rfl 0 (Nat.zero_le _))
      · rename_i hb
        have hb' : news.1 ≠ 0 := fun h => hb (by simp [h])
        refine Sat.ret _ ⟨Shape.new, fun ν a w he hpre next Q hnx => ?_⟩
        obtain ⟨cs', N⟩ := hn ν w hpre _ (he y (by simp [ho, Op.operands, Call.operands]) _ hy)
        have ex : a.eval x = .slice none 0 0 := he x (by simp [ho, Op.operands, Call.operands]) _ hx
        have hl := N.rel.len
        have htk : cs'.take (news.1 * i.size) = cs' := List.take_of_length_le (by rw [← hl, N.len]; exact Nat.le_refl _)
        have hge := grownCap_ge w (0 + news.1) 0 e
        have hrun := hex a w _ _ fun ty => by
          rw [ex]
          exact grow_run (ty := ty) (olds := []) (news := cs') h0 h1 ht h2 hi hz w N.lenOf (fun W _ => by simp [Builtin.firstCells]) (fun W hW => by
            have := N.first W hW news.1 (Nat.le_refl _)
            rw [htk] at this
            exact this) (by omega) (by omega) (growslice_fits (by omega) (by rw [Nat.zero_add]; omega))
        have hcs : (([] : List Value).toArray ++ cs'.toArray ++ Builtin.zeroCells z.cells (grownCap w (0 + news.1) 0 e - (0 + news.1))).size = grownCap w (0 + news.1) 0 e * i.size := by
          simp only [Array.size_append, List.size_toArray, List.length_nil, size_zeroCells, hzs, ← hl, N.len]
          rw [Nat.zero_add, ← Nat.add_mul]
          congr 1
          omega
        refine wp_value hrun (hnx _ _ _ (Post.new (w := w) (w' := w.drew.alloc (.cells (([] : List Value).toArray ++ cs'.toArray ++ Builtin.zeroCells z.cells (grownCap w (0 + news.1) 0 e - (0 + news.1))) e)) (e := e) (lo := 0) (hi := 0) (cs := news.2.1) hpre rfl rfl rfl rfl FzOk.none (by
          rw [hcs, N.len]
          exact Nat.mul_le_mul_right _ (by omega)) (by
          simp only [Array.toList_append, List.nil_append]
          rw [hl, List.take_left]
          refine CR.of (e := e) N.rel ?_
          cases hf : flatT P 6 e with
          | false => rfl
          | true => rw [hf] at hfl; simp at hfl; simp [N.flat hfl]) _) ?_)
        rw [Nat.zero_add] at hge ⊢
        exact named_slice hge hge (by rw [hsz, ← Nat.zero_add news.1, hcs]; rfl)
    · rename_i b len cap
      split
      · rename_i e' cs hbk
        refine Sat.bind_chk fun hm => Sat.bind_ask ?_
        simp only [Bool.and_eq_true, beq_iff_eq, decide_eq_true_eq, most] at hm
        obtain ⟨⟨⟨rfl, hm1⟩, hm2⟩, hm3⟩ := hm
        replace hm1 : (len + news.1) * i.bytes ≤ 140737488355328 := of_decide_eq_true hm1
        replace hm2 : len + news.1 ≤ 140737488355328 := of_decide_eq_true hm2
        have hbF : b ∈ F := hFs b (by simp [idsV, idsVC, idsV1])
        split
        · rename_i hb1
          replace hb1 := of_decide_eq_true hb1
          refine Sat.bind_chk fun hc2 => Sat.ret _ ⟨Shape.write hbF hbk, fun ν a w he hpre next Q hnx => ?_⟩
          replace hc2 := of_decide_eq_true hc2
          obtain ⟨cs', N⟩ := hn ν w hpre _ (he y (by simp [ho, Op.operands, Call.operands]) _ hy)
          obtain ⟨a', cap', ex, k2, k3, k4⟩ := he x (by simp [ho, Op.operands, Call.operands]) _ hx
          have hl := N.rel.len
          have htk : cs'.take (news.1 * i.size) = cs' := List.take_of_length_le (by rw [← hl, N.len]; exact Nat.le_refl _)
          have hrel : L2 (CR P ν e') news.2.1 cs' := by
            refine CR.of N.rel ?_
            cases hf : flatT P 6 e' with
            | false => rfl
            | true => rw [hf] at hfl; simp at hfl; simp [N.flat hfl]
          have hfit : (len + news.1) * i.size ≤ cap * i.size := Nat.mul_le_mul_right _ hb1
          rw [Nat.add_mul] at hfit
          obtain ⟨M, w', m1, m2, m3⟩ := write_ok (v := .slice (some ⟨b, 0, none⟩) (len + news.1) cap) hpre hbF hbk (off := len * i.size) (by rw [N.len]; omega) hrel
          have hfc : (Builtin.firstCells i.size news.1 (a.eval y)).run P w = .ok cs'.toArray w := by
            have := N.first w rfl news.1 (Nat.le_refl _)
            rw [htk] at this
            exact this
          have hrun := hex a w w' (.slice (some a') (len + news.1) cap') fun ty => by
            rw [ex]
            refine room_run h0 h1 ht h2 hi N.lenOf hfc (by omega) ?_
            by_cases hp : 0 < cap'
            · obtain ⟨N', n1, _, rfl, _⟩ := k4 hp
              rw [show ν b = some N' from n1] at m1
              cases m1
              rw [at_add]
              simpa using m2
            · have : cs' = [] := List.eq_nil_of_length_eq_zero (by rw [← hl, N.len]; have : news.1 = 0 := by omega
                                                                   rw [this]; simp)
              rw [this] at m2 ⊢
              exact m2
          refine wp_value hrun (hnx _ _ _ m3 ⟨_, _, rfl, k2, by omega, fun hp => k4 hp⟩)
        · rename_i hb1
          refine Sat.bind_chk fun hc2 => Sat.ret _ ⟨Shape.moved hbF hbk, fun ν a w he hpre next Q hnx => ?_⟩
          replace hc2 := of_decide_eq_true hc2
          replace hb1 : ¬ (len + news.1 ≤ cap) := fun h => hb1 (decide_eq_true h)
          obtain ⟨cs', N⟩ := hn ν w hpre _ (he y (by simp [ho, Op.operands, Call.operands]) _ hy)
          obtain ⟨a', cap', ex, k2, k3, k4⟩ := he x (by simp [ho, Op.operands, Call.operands]) _ hx
          have hl := N.rel.len
          have htk : cs'.take (news.1 * i.size) = cs' := List.take_of_length_le (by rw [← hl, N.len]; exact Nat.le_refl _)
          have hrel : L2 (CR P ν e') news.2.1 cs' := by
            refine CR.of N.rel ?_
            cases hf : flatT P 6 e' with
            | false => rfl
            | true => rw [hf] at hfl; simp at hfl; simp [N.flat hfl]
          have hbl := hpre.blk b hbF
          rw [hbk] at hbl
          obtain ⟨g, cur, lo, hi', q1, q2, q3, q4, q5⟩ := hbl
          have hql := q5.len
          have hns : news.2.1.length = news.1 * i.size := N.len
          have hfc : ∀ W : World, W.heap = w.heap → (Builtin.firstCells i.size news.1 (a.eval y)).run P W = .ok cs'.toArray W := fun W hW => by
            have := N.first W hW news.1 (Nat.le_refl _)
            rw [htk] at this
            exact this
          by_cases hroom : len + news.1 ≤ cap'
          · obtain ⟨N', n1, _, rfl, n4⟩ := k4 (by omega)
            rw [show ν b = some N' from n1] at q1
            cases q1
            rw [hsz] at n4
            have n4' : cap' * i.size = cur.size := by simpa using n4
            have hfit : (len + news.1) * i.size ≤ cap' * i.size := Nat.mul_le_mul_right _ hroom
            rw [Nat.add_mul] at hfit
            obtain ⟨w', s1, s2, s3, s4, s5, s6, s7⟩ := storeCells_run (P := P) (off := len * i.size) cs' 0 cur w q2 (by omega) q3.1 (L2.ones (hrel.mono fun _ _ hh => hh.1))
            have hrun := hex a w w' _ fun ty => by
              rw [ex]
              refine room_run h0 h1 ht h2 hi N.lenOf (hfc w rfl) hroom ?_
              rw [at_add]
              simpa [Nm.at] using s1
            have hsz' : ((put cur.toList (len * i.size + 0) cs').toArray).size = cur.size := by simp [put_len]
            have hpost := Post.moved (w' := w') (g' := g) (cs' := cs ++ news.2.1) (lo := lo) (hi := hi') hpre hbF hbk n1 s2 (.inl rfl) (fun k _ hk => s3 k hk) (by omega) s5 s6 s7 (by rw [hsz']; exact q3) (by
              rw [hsz', List.length_append]; omega) (by
              rw [List.length_append, List.toList_toArray, Nat.add_zero, hc2, hl]
              rw [put_at_end _ _ _ (by simp; omega)]
              rw [← hc2]
              exact q5.append hrel) (.slice (some ⟨hp.length, 0, none⟩) (len + news.1) (len + news.1))
            exact wp_value hrun (hnx _ _ _ hpost (named_slice hroom hroom (by rw [hsz, hsz']; exact n4')))
          · have hge := grownCap_ge w (len + news.1) cap' e'
            have hold : ∀ W : World, W.heap = w.heap → (Builtin.firstCells i.size len (.slice (some a') len cap')).run P W = .ok (cur.toList.take cs.length).toArray W := by
              intro W hW
              by_cases hp : 0 < cap'
              · obtain ⟨N', n1, _, rfl, n4⟩ := k4 hp
                rw [show ν b = some N' from n1] at q1
                cases q1
                have hr := run_loadCells_list (P := P) (w := W) ⟨g, 0, none⟩ (cur.toList.take cs.length) (fun j v hj => by
                  rw [List.getElem?_take] at hj
                  have hadd : (⟨g, 0, none⟩ : Addr).add j = ⟨g, j, none⟩ := by
                    have := at_add (⟨g, 0, 0, 0⟩ : Nm) 0 j
                    simpa [Nm.at] using this
                  rw [hadd]
                  split at hj
                  · simpa [World.cell?, hW, q2] using hj
                  · cases hj)
                rw [← hql, hc2] at hr
                simpa [Builtin.firstCells, Nm.at, hc2] using hr
              · have : len = 0 := by omega
                have h0 : cs.length = 0 := by rw [hc2, this]; simp
                rw [this, h0]
                simp [Builtin.firstCells, loadCells, loadCellsFrom]
            have hrun := hex a w _ _ fun ty => by
              rw [ex]
              exact grow_run (ty := ty) (news := cs') h0 h1 ht h2 hi hz w N.lenOf hold hfc (by omega) (by omega) (growslice_fits (by omega) (by omega))
            have hcs : ((cur.toList.take cs.length).toArray ++ cs'.toArray ++ Builtin.zeroCells z.cells (grownCap w (len + news.1) cap' e' - (len + news.1))).size = grownCap w (len + news.1) cap' e' * i.size := by
              simp only [Array.size_append, List.size_toArray, size_zeroCells, hzs]
              rw [← hql, hc2, ← hl, hns, ← Nat.add_mul, ← Nat.add_mul]
              congr 1
              omega
            have hpost := Post.moved (w' := w.drew.alloc (.cells ((cur.toList.take cs.length).toArray ++ cs'.toArray ++ Builtin.zeroCells z.cells (grownCap w (len + news.1) cap' e' - (len + news.1))) e')) (g' := w.heap.size) (cs' := cs ++ news.2.1) (lo := 0) (hi := 0) hpre hbF hbk q1 (heap_alloc_new w.drew _) (.inr (Nat.le_refl _)) (fun k hk _ => heap_alloc_old w.drew _ k hk) (by simp) rfl rfl rfl FzOk.none (by
              rw [hcs, List.length_append, hc2, hns, ← Nat.add_mul]
              exact Nat.mul_le_mul_right _ hge) (by
              have e1 : (cs ++ news.2.1).length = (cur.toList.take cs.length ++ cs').length := by rw [List.length_append, List.length_append, ← hql, hl]
              rw [e1]
              simp only [Array.toList_append]
              rw [List.take_left]
              exact q5.append hrel) (.slice (some ⟨hp.length, 0, none⟩) (len + news.1) (len + news.1))
            exact wp_value hrun (hnx _ _ _ hpost (named_slice hge hge (by rw [hsz, hcs]; rfl)))
      · exact Sat.stop
    · exact Sat.stop
  · exact Sat.stop
end
end Go.Proofs.Ythjlpklloioknaa.Ex
namespace Go.Proofs.Ythjlpklloioknaa.Ex
open Go
set_option linter.unusedVariables false
set_option linter.unusedSimpArgs false
section
variable {P : Program} {F : List Nat} {fr : Fr} {hp : Hp} {o : Oper}
theorem copy_sat {ts : Array TypeId} {xs : Array Operand} {t : TypeId} {d s : Value} (ho : o.op = .call { callee := .builtin .copy, args := xs, argTypes := ts }) (h0 : ts[0]? = some t)
    (hvs : vals fr xs.toList = some [d, s]) (hFd : ∀ id, id ∈ idsV d → id ∈ F) (hF : ∀ id, id ∈ idsV s → id ∈ F) : Sat (copyA P hp t d s) (OpOk P F fr hp o) := by
  obtain ⟨x, y, rfl, hx, hy⟩ := vals_two hvs
  unfold copyA
  split
  · rename_i e b off len cap ht
    refine Sat.bind_lift fun n hn => Sat.bind (news_sat hF) fun news hN => ?_
    have hbF : b ∈ F := hFd b (by simp [idsV, idsVC, idsV1])
    refine wr_sat hbF ?_
    rintro hp' ⟨e', cs, he', hfit, hf, rfl⟩
    refine ⟨Shape.write hbF he', fun ν a w he hpre next Q hnx => ?_⟩
    obtain ⟨cs', N⟩ := hN ν w hpre _ (he y (by simp [ho, Op.operands, Call.operands]) _ hy)
    obtain ⟨a', cap', ex, k2, k3, k4⟩ := he x (by simp [ho, Op.operands, Call.operands]) _ hx
    have hmin : Nat.min news.1 len ≤ news.1 := Nat.min_le_left _ _
    have hmin2 : Nat.min news.1 len ≤ len := Nat.min_le_right _ _
    have hrel : L2 (CR P ν e') (news.2.1.take (Nat.min news.1 len * n)) (cs'.take (Nat.min news.1 len * n)) := by
      refine CR.of (N.rel.take _) ?_
      cases hf' : flatT P 6 e' with
      | false => rfl
      | true =>
        rw [hf'] at hf
        have hfl := N.flat (by simpa using hf)
        simp only [Bool.not_true, Bool.false_or]
        exact List.all_eq_true.2 fun x hx => List.all_eq_true.1 hfl x (List.mem_of_mem_take hx)
    obtain ⟨M, w', m1, m2, m3⟩ := write_ok (v := .int .i64 (Nat.min news.1 len : Nat)) hpre hbF he' hfit hrel
    have hfc := N.first w rfl _ hmin
    have hst : (storeCells a' (cs'.take (Nat.min news.1 len * n))).run P w = .ok () w' := by
      by_cases hp : 0 < cap'
      · obtain ⟨N', n1, _, rfl, _⟩ := k4 hp
        rw [show ν b = some N' from n1] at m1
        cases m1
        exact m2
      · have h1 : Nat.min news.1 len = 0 := by omega
        rw [h1, Nat.zero_mul, List.take_zero] at m2 ⊢
        exact m2
    have hrun : (execOp a.eval o).run P w = .ok (.value (.int .i64 (Nat.min news.1 len : Nat))) w' := by
      simp only [execOp, ho, resolve, invoke, builtin, Sem.run_bind, Result.andThen_ok, Sem.run_pure, List.map_toArray, List.map_cons, List.map_nil, Builtin.copy_, ex]
      simp [h0, run_und ht, N.lenOf, run_sz hn, hfc, hst, goInt]
    exact wp_value hrun (hnx _ _ _ m3 rfl)
  · exact Sat.stop
end
end Go.Proofs.Ythjlpklloioknaa.Ex
namespace Go.Proofs.Ythjlpklloioknaa.Ex
open Go
set_option linter.unusedVariables false
set_option linter.unusedSimpArgs false
section
variable {P : Program} {F : List Nat} {fr : Fr} {hp : Hp} {o : Oper}
theorem mapL_L2 {α β : Type} {f : α → Option β} : ∀ {xs : List α} {ys : List β}, mapL f xs = some ys → L2 (fun x y => f x = some y) xs ys
  | [], ys, h => by cases h; exact .nil
  | x :: xs, ys, h => by
    unfold mapL at h
    cases hx : f x with
    | none => rw [hx] at h; cases h
    | some y =>
      cases hr : mapL f xs with
      | none => rw [hx, hr] at h; cases h
      | some r => rw [hx, hr] at h; cases h; exact .cons hx (mapL_L2 hr)
theorem L2.via {α β γ : Type} {R : α → β → Prop} {S : α → γ → Prop} {T : β → γ → Prop} {l : List α} {m : List β} {n : List γ} (h1 : L2 R l m) (h2 : L2 S l n) (h : ∀ a b c, R a b → S a c → T b c) : L2 T m n := by
  induction h1 generalizing n with
  | nil => cases h2; exact .nil
  | cons a _ ih => cases h2 with
    | cons b c => exact .cons (h _ _ _ a b) (ih c)
def Kept (f : Nat → Option Nat) (ν ν1 : Nu) : Prop := ∀ b j N, f b = some j → ν b = some N → ν1 j = some N
section
variable {f : Nat → Option Nat} {ν ν1 : Nu}
theorem ren0_ok (hk : Kept f ν ν1) {v v1 v' : Value} (h : ren0 f v = some v1) (hv : VR0 ν v v') : VR0 ν1 v1 v' := by
  unfold ren0 at h
  split at h
  · rename_i a
    obtain ⟨N, h1, h2, h3⟩ := hv
    cases hf : f a.block with
    | none => rw [hf] at h; cases h
    | some j => rw [hf] at h; cases h; exact ⟨N, hk _ _ _ hf h1, h2, h3⟩
  · rename_i a l c
    obtain ⟨a', c', h1, h2, h3, h4⟩ := hv
    cases hf : f a.block with
    | none => rw [hf] at h; cases h
    | some j =>
      rw [hf] at h
      cases h
      refine ⟨a', c', h1, h2, h3, fun hc => ?_⟩
      obtain ⟨N, k1, k2⟩ := h4 hc
      exact ⟨N, hk _ _ _ hf k1, k2⟩
  · split at h
    · rename_i hf
      cases h
      cases v with
      | func fn a b => cases hv
      | pointer a => cases a with
        | none => exact hv
        | some a => cases hf
      | slice a l c => cases a with
        | some a => cases hf
        | none => cases l <;> cases c <;> first | exact hv | cases hf
      | map r => cases r <;> first | exact hv | cases hf
      | _ => first | exact hv | cases hf
    · cases h
theorem VR1.of0 {v v' : Value} (h : VR0 ν v v') : VR1 ν v v' := by
  cases v with
  | func fn a b => cases h
  | _ => exact h
theorem VRC.of1 {v v' : Value} (h : VR1 ν v v') : VRC ν v v' := by
  cases v with
  | agg cs => cases h
  | _ => exact h
theorem ren1_ok (hk : Kept f ν ν1) {v v1 v' : Value} (h : ren1 f v = some v1) (hv : VR1 ν v v') : VR1 ν1 v1 v' := by
  cases v with
  | func fn a b =>
    simp only [ren1] at h
    cases ha : mapL (ren0 f) a.toList with
    | none => rw [ha] at h; cases h
    | some a2 =>
      cases hb : mapL (ren0 f) b.toList with
      | none => rw [ha, hb] at h; cases h
      | some b2 =>
        rw [ha, hb] at h
        cases h
        obtain ⟨a', b', rfl, h1, h2⟩ := hv
        exact ⟨a', b', rfl, by simpa using (mapL_L2 ha).via h1 fun _ _ _ => ren0_ok hk, by simpa using (mapL_L2 hb).via h2 fun _ _ _ => ren0_ok hk⟩
  | _ => simp only [ren1] at h; exact VR1.of0 (ren0_ok hk h hv)
theorem renC_ok (hk : Kept f ν ν1) {v v1 v' : Value} (h : renC f v = some v1) (hv : VRC ν v v') : VRC ν1 v1 v' := by
  cases v with
  | agg cs =>
    simp only [renC] at h
    cases ha : mapL (ren1 f) cs.toList with
    | none => rw [ha] at h; cases h
    | some a2 =>
      rw [ha] at h
      cases h
      obtain ⟨c', rfl, h1⟩ := hv
      exact ⟨c', rfl, by simpa using (mapL_L2 ha).via h1 fun _ _ _ => ren1_ok hk⟩
  | _ => simp only [renC] at h; exact VRC.of1 (ren1_ok hk h hv)
theorem ren_ok (hk : Kept f ν ν1) {v v1 v' : Value} (h : ren f v = some v1) (hv : VR ν v v') : VR ν1 v1 v' := by
  cases v with
  | tuple cs =>
    simp only [ren] at h
    cases ha : mapL (renC f) cs.toList with
    | none => rw [ha] at h; cases h
    | some a2 =>
      rw [ha] at h
      cases h
      obtain ⟨c', rfl, h1⟩ := hv
      exact ⟨c', rfl, by simpa using (mapL_L2 ha).via h1 fun _ _ _ => renC_ok hk⟩
  | _ => simp only [ren] at h; exact VR.ofC (renC_ok hk h hv)
theorem CR.ren_flat {e : TypeId} {cs cs' : List Value} (hf : flatT P 6 e = true) (h : L2 (CR P ν e) cs cs') : L2 (CR P ν1 e) cs cs' :=
  h.mono fun v v' hh => ⟨(flat1_VR (hh.2 hf) v').2 ((flat1_VR (hh.2 hf) v').1 hh.1), hh.2⟩
theorem CR.ren_map {e : TypeId} (hk : Kept f ν ν1) {cs cs1 cs' : List Value} (hf : ¬ flatT P 6 e = true) (hm : mapL (ren1 f) cs = some cs1) (h : L2 (CR P ν e) cs cs') : L2 (CR P ν1 e) cs1 cs' :=
  (mapL_L2 hm).via h fun _ _ _ hr hh => ⟨ren1_ok hk hr hh.1, fun h => absurd h hf⟩
theorem renB_ok (hk : Kept f ν ν1) {w : World} {id j : Nat} (hj : ∀ N, ν id = some N → ν1 j = some N) {b b1 : Blk} (h : renB P f b = some b1) (hb : RepBlk P ν w id b) : RepBlk P ν1 w j b1 := by
  have one : ∀ {e : TypeId} {cs cs1 : List Value} {mk : List Value → Blk}, (if flatT P 6 e = true then some (mk cs) else (mapL (ren1 f) cs).map mk) = some b1 →
      ∃ cs1, b1 = mk cs1 ∧ cs1.length = cs.length ∧ ∀ cs', L2 (CR P ν e) cs cs' → L2 (CR P ν1 e) cs1 cs' := by
    intro e cs _ mk h
    split at h
    · rename_i hf
      cases h
      exact ⟨cs, rfl, rfl, fun cs' hc => CR.ren_flat hf hc⟩
    · rename_i hf
      cases hm : mapL (ren1 f) cs with
      | none => rw [hm] at h; cases h
      | some cs1 =>
        rw [hm] at h
        cases h
        exact ⟨cs1, rfl, (mapL_L2 hm).len.symm, fun cs' hc => CR.ren_map hk hf hm hc⟩
  cases b with
  | dead => cases h; trivial
  | own e cs =>
    obtain ⟨g, cur, lo, hi, h1, h2, h3, h4, h5⟩ := hb
    obtain ⟨cs1, rfl, hl, hc⟩ := one (cs1 := cs) (mk := Blk.own e) h
    exact ⟨g, cur, lo, hi, hj _ h1, h2, h3, by omega, by rw [hl]; exact hc _ h5⟩
  | ro e cs =>
    obtain ⟨N, h1, h3, h4, cs', h5, h6⟩ := hb
    obtain ⟨cs1, rfl, hl, hc⟩ := one (cs1 := cs) (mk := Blk.ro e) h
    exact ⟨N, hj _ h1, h3, h4, cs', hc _ h5, h6⟩
theorem renB_own {b b1 : Blk} (h : renB P f b = some b1) : b1.isOwn = b.isOwn ∧ b1.live = b.live := by
  cases b with
  | dead => cases h; exact ⟨rfl, rfl⟩
  | own e cs =>
    simp only [renB] at h
    split at h
    · cases h; exact ⟨rfl, rfl⟩
    · cases hm : mapL (ren1 f) cs with
      | none => rw [hm] at h; cases h
      | some c => rw [hm] at h; cases h; exact ⟨rfl, rfl⟩
  | ro e cs =>
    simp only [renB] at h
    split at h
    · cases h; exact ⟨rfl, rfl⟩
    · cases hm : mapL (ren1 f) cs with
      | none => rw [hm] at h; cases h
      | some c => rw [hm] at h; cases h; exact ⟨rfl, rfl⟩
end
theorem posIn_some : ∀ {ids : List Nat} {b j : Nat}, posIn ids b = some j → ids[j]? = some b
  | [], _, _, h => by cases h
  | x :: xs, b, j, h => by
    unfold posIn at h
    split at h
    · rename_i hx
      cases h
      simpa using hx
    · cases hp : posIn xs b with
      | none => rw [hp] at h; cases h
      | some k => rw [hp] at h; cases h; simpa using posIn_some hp
theorem reach_nodup : ∀ (n : Nat) (todo seen : List Nat), seen.Nodup → (reach P hp n todo seen).Nodup
  | 0, _, seen, h => h
  | n + 1, [], seen, h => h
  | n + 1, b :: r, seen, h => by
    unfold reach
    split
    · exact reach_nodup n _ _ h
    · rename_i hb
      refine reach_nodup n _ _ (List.nodup_append.2 ⟨h, by simp, fun a ha c hc => ?_⟩)
      rw [List.mem_singleton.1 hc]
      rintro rfl
      exact hb (by simpa using ha)
theorem setAll_ok {f : Nat → Option Nat} {ids : List Nat} {h2 : Hp} : ∀ {js : List Nat} {hp hp1 : Hp}, setAll P f ids h2 js hp = some hp1 → (∀ j b, j ∈ js → ids[j]? = some b → b < hp.length) → hp1.length = hp.length ∧
    ∀ id, (∃ j, j ∈ js ∧ ids[j]? = some id ∧ renB P f (h2.getD j .dead) = some (hp1.getD id .dead)) ∨ ((∀ j, j ∈ js → ids[j]? ≠ some id) ∧ hp1.getD id .dead = hp.getD id .dead)
  | [], hp, hp1, h, _ => by cases h; exact ⟨rfl, fun id => .inr ⟨fun j hj => by simp at hj, rfl⟩⟩
  | j :: r, hp, hp1, h, hlt => by
    unfold setAll at h
    cases hb : ids[j]? with
    | none => rw [hb] at h; cases h
    | some b =>
      cases hk : renB P f (h2.getD j .dead) with
      | none => rw [hb, hk] at h; cases h
      | some k =>
        rw [hb, hk] at h
        have hbl := hlt j b (by simp) hb
        obtain ⟨h1, h3⟩ := setAll_ok (js := r) (hp := hp.set b k) (hp1 := hp1) h (fun j' b' hj' hb' => by rw [List.length_set]; exact hlt j' b' (by simp [hj']) hb')
        refine ⟨by rw [h1, List.length_set], fun id => ?_⟩
        rcases h3 id with ⟨j', k1, k2, k3⟩ | ⟨k1, k2⟩
        · exact .inl ⟨j', by simp [k1], k2, k3⟩
        · rw [getD_set id hbl] at k2
          by_cases e : id = b
          · subst e
            rw [if_pos rfl] at k2
            exact .inl ⟨j, by simp, hb, by rw [k2]; exact hk⟩
          · rw [if_neg e] at k2
            refine .inr ⟨fun j' hj' => ?_, k2⟩
            rcases List.mem_cons.1 hj' with rfl | hj'
            · rw [hb]; intro h; cases h; exact e rfl
            · exact k1 j' hj'
end
end Go.Proofs.Ythjlpklloioknaa.Ex
namespace Go.Proofs.Ythjlpklloioknaa.Ex
open Go
set_option linter.unusedVariables false
set_option linter.unusedSimpArgs false
section
variable {P : Program} {F : List Nat} {fr : Fr} {hp : Hp} {o : Oper}
def CallOkE (E : Ending → Value → Prop) (P : Program) (F : List Nat) (f : FuncId) (args : List Value) (hp : Hp) (r : Res) : Prop :=
  Shape F hp r ∧ ∀ ν w args', L2 (VR ν) args args' → Pre P F ν hp w → Calls P f args'.toArray w fun e w' => ∃ v' ν', E e v' ∧ VR ν' r.v v' ∧ Post P F ν hp w r ν' w'
def CallSpecE (E : Ending → Value → Prop) (P : Program) (f : FuncId) (args : List Value) (hp : Hp) (r : Res) : Prop :=
  ∀ ν w args', L2 (VR ν) args args' → Rep P ν hp w → Calls P f args'.toArray w fun e w' => ∃ v' ν', E e v' ∧ VR ν' r.v v' ∧ Inv P w ν hp.length ν' r.hp r.wr w'
def Back (e : Ending) (v : Value) : Prop := e = .returned v
def CallOk (P : Program) (F : List Nat) (f : FuncId) (args : List Value) (hp : Hp) (r : Res) : Prop :=
  Shape F hp r ∧ ∀ ν w args', L2 (VR ν) args args' → Pre P F ν hp w → Calls P f args'.toArray w fun e w' => ∃ v' ν', e = .returned v' ∧ VR ν' r.v v' ∧ Post P F ν hp w r ν' w'
theorem L2.getD {α β : Type} {R : α → β → Prop} {l : List α} {m : List β} (h : L2 R l m) {i : Nat} {a : α} (ha : l[i]? = some a) : ∃ b, m[i]? = some b ∧ R a b := h.get i a ha
theorem getD_of {b : Blk} {l : Hp} {i : Nat} (h : l[i]? = some b) : l.getD i .dead = b := by rw [List.getD_eq_getElem?_getD, h]; rfl
theorem getD_app {l m : Hp} {i : Nat} (h : l.length ≤ i) : (l ++ m).getD i .dead = m.getD (i - l.length) .dead := by
  rw [List.getD_eq_getElem?_getD, List.getD_eq_getElem?_getD, List.getElem?_append_right h]
theorem getD_app_left {l m : Hp} {i : Nat} (h : i < l.length) : (l ++ m).getD i .dead = l.getD i .dead := by
  rw [List.getD_eq_getElem?_getD, List.getD_eq_getElem?_getD, List.getElem?_append_left h]
theorem call_satE {E : Ending → Value → Prop} {inl : CallF} {g : FuncId} {args : List Value} (hinl : ∀ args hp, Sat (inl g args hp) (CallSpecE E P g args hp)) (hF : ∀ id, id ∈ argIds P hp args → id ∈ F) :
    Sat (callA P inl g args hp) (CallOkE E P F g args hp) := by
  unfold callA
  refine Sat.bind_lift fun args1 ha => Sat.bind_lift fun sub hs => Sat.bind (hinl _ _) fun r hr => Sat.bind_chk fun hc => Sat.bind_lift fun v hv => Sat.bind_lift fun hp1 hs1 => Sat.bind_lift fun news hn => Sat.ret _ ?_
  simp only [Bool.and_eq_true, List.all_eq_true] at hc
  obtain ⟨hlen, hown⟩ := hc
  replace hlen := of_decide_eq_true hlen
  revert hF ha hs hv hs1 hn hlen
  have hnd : (argIds P hp args).Nodup := reach_nodup _ _ _ (by simp)
  revert hnd
  generalize argIds P hp args = ids
  intro hnd hF ha hs hv hs1 hn hlen
  have hsl := (mapL_L2 hs).len
  have hsub : ∀ j id, ids[j]? = some id → renB P (posIn ids) (hp.getD id .dead) = some (sub.getD j .dead) := fun j id hj => by
    obtain ⟨b, k1, k2⟩ := (mapL_L2 hs).get j id hj
    rw [getD_of k1]
    exact k2
  have hids : ∀ j, j < ids.length → ∃ id, ids[j]? = some id := fun j hj => ⟨ids[j], by simp [hj]⟩
  have hidlt : ∀ j id, ids[j]? = some id → j < ids.length := fun j id hj => by
    rcases Nat.lt_or_ge j ids.length with h | h
    · exact h
    · rw [List.getElem?_eq_none h] at hj; cases hj
  have hmem : ∀ j id, ids[j]? = some id → id ∈ F := fun j id hj => hF id (List.mem_of_getElem? hj)
  have hinj : ∀ i j id, ids[i]? = some id → ids[j]? = some id → i = j := fun i j id hi hj => by
    have h1 := hidlt i id hi
    have h2 := hidlt j id hj
    exact (List.getElem?_inj h1 hnd).1 (hi.trans hj.symm)
  have howj : ∀ j id, j ∈ r.wr → ids[j]? = some id → (hp.getD id .dead).isOwn = true := fun j id hj hi => by
    rw [← (renB_own (hsub j id hi)).1]
    exact hown j hj
  obtain ⟨hl1, hset⟩ := setAll_ok hs1 fun j b hj hb => own_lt (howj j b hj hb)
  have hwr : ∀ id, id ∈ r.wr.filterMap (fun j => ids[j]?) → ∃ j, j ∈ r.wr ∧ ids[j]? = some id := fun id hid => by
    obtain ⟨j, h1, h2⟩ := List.mem_filterMap.1 hid
    exact ⟨j, h1, h2⟩
  have hwrj : ∀ j id, j ∈ r.wr → ids[j]? = some id → id ∈ r.wr.filterMap (fun j => ids[j]?) := fun j id h1 h2 => List.mem_filterMap.2 ⟨j, h1, h2⟩
  have hnl := (mapL_L2 hn).len
  rw [List.length_drop] at hnl
  have hnew : ∀ id, hp.length ≤ id → (hp1 ++ news).getD id .dead = news.getD (id - hp.length) .dead := fun id hid => by
    rw [getD_app (by omega), hl1]
  have hold : ∀ id, id < hp.length → (hp1 ++ news).getD id .dead = hp1.getD id .dead := fun id hid => getD_app_left (by omega)
  have hnewB : ∀ k, k < news.length → renB P (backTo ids hp.length) (r.hp.getD (ids.length + k) .dead) = some (news.getD k .dead) := fun k hk => by
    obtain ⟨b, k1, k2⟩ := (mapL_L2 hn).get' k news[k] (by simp [hk])
    rw [List.getElem?_drop] at k1
    rw [getD_of k1, getD_of (i := k) (l := news) (b := news[k]) (by simp [hk])]
    exact k2
  refine ⟨⟨?_, fun id hid => ?_, fun id hid => ?_, fun id hid hnid => ?_⟩, fun ν w args' hargs hpre => ?_⟩
  · simp [hl1]
  · obtain ⟨j, h1, h2⟩ := hwr id hid
    exact ⟨hmem j id h2, own_lt (howj j id h1 h2)⟩
  · obtain ⟨j, h1, h2⟩ := hwr id hid
    exact howj j id h1 h2
  · show (hp1 ++ news).getD id .dead = _
    rw [hold id hid]
    rcases hset id with ⟨j, h1, h2, _⟩ | ⟨_, h2⟩
    · exact absurd (hwrj j id h1 h2) hnid
    · exact h2
  · let ν1 : Nu := fun j => (ids[j]?).bind ν
    have e1 : ∀ j id, ids[j]? = some id → ν1 j = ν id := fun j id hj => by show (ids[j]?).bind ν = _; rw [hj]; rfl
    have hk1 : Kept (posIn ids) ν ν1 := fun b j N hb hN => by rw [e1 j b (posIn_some hb)]; exact hN
    have hsub0 : ∀ j, ids.length ≤ j → sub.getD j .dead = .dead := fun j hj => getD_out (by omega)
    have rep : Rep P ν1 sub w := by
      refine ⟨fun j hj => ?_, fun j => ?_, fun i j N K hij hi hj hN hK => ?_⟩
      · show (ids[j]?).bind ν = none
        rw [List.getElem?_eq_none (by omega)]
        rfl
      · rcases Nat.lt_or_ge j ids.length with h | h
        · obtain ⟨id, hid⟩ := hids j h
          exact renB_ok hk1 (fun N hN => by rw [e1 j id hid]; exact hN) (hsub j id hid) (hpre.blk id (hmem j id hid))
        · rw [hsub0 j h]; trivial
      · have hi' : i < ids.length := by
          rcases Nat.lt_or_ge i ids.length with h | h
          · exact h
          · rw [hsub0 i h] at hi; cases hi
        have hj' : j < ids.length := by
          rcases Nat.lt_or_ge j ids.length with h | h
          · exact h
          · rw [hsub0 j h] at hj; cases hj
        obtain ⟨a, ha⟩ := hids i hi'
        obtain ⟨b, hb⟩ := hids j hj'
        rw [(renB_own (hsub i a ha)).1] at hi
        rw [(renB_own (hsub j b hb)).2] at hj
        rw [e1 i a ha] at hN
        rw [e1 j b hb] at hK
        exact hpre.sep a b N K (fun e => hij (hinj i j a ha (by rw [e]; exact hb))) (hmem i a ha) (hmem j b hb) hi hj hN hK
    refine (hr ν1 w args' ((mapL_L2 ha).via hargs fun _ _ _ h1 h2 => ren_ok hk1 h1 h2) rep).mono ?_
    rintro e w' ⟨v', ν', hend, hvr, inv⟩
    have hm : sub.length = ids.length := hsl.symm
    let ν2 : Nu := fun id => if id < hp.length then ν id else ν' (ids.length + (id - hp.length))
    have o2 : ∀ id, id < hp.length → ν2 id = ν id := fun id h => if_pos h
    have n2 : ∀ id, hp.length ≤ id → ν2 id = ν' (ids.length + (id - hp.length)) := fun id h => if_neg (by omega)
    have hsame : ∀ j id, ids[j]? = some id → ν' j = ν id := fun j id hj => by
      rw [inv.same j (by rw [hm]; exact hidlt j id hj), e1 j id hj]
    have le2 : Le ν ν2 := fun id N hN => by
      rcases Nat.lt_or_ge id hp.length with h | h
      · rw [o2 id h]; exact hN
      · rw [hpre.dom id h] at hN; cases hN
    have hk2 : Kept (backTo ids hp.length) ν' ν2 := fun j id N hb hN => by
      unfold backTo at hb
      split at hb
      · rw [hsame j id hb] at hN
        exact le2 id N hN
      · cases hb
        rename_i hj
        rw [n2 _ (by omega), show ids.length + (hp.length + (j - ids.length) - hp.length) = j by omega]
        exact hN
    refine ⟨v', ν2, hend, ren_ok hk2 hv hvr, ?_⟩
    -- what an old block is now
    have hq : ∀ id, id < hp.length → (∃ j, j ∈ r.wr ∧ ids[j]? = some id ∧ renB P (backTo ids hp.length) (r.hp.getD j .dead) = some ((hp1 ++ news).getD id .dead)) ∨ ((∀ j, j ∈ r.wr → ids[j]? ≠ some id) ∧ (hp1 ++ news).getD id .dead = hp.getD id .dead) := fun id h => by
      rw [hold id h]
      exact hset id
    have hnewq : ∀ id, hp.length ≤ id → (∃ k, id = hp.length + k ∧ renB P (backTo ids hp.length) (r.hp.getD (ids.length + k) .dead) = some ((hp1 ++ news).getD id .dead)) ∨ (hp1 ++ news).getD id .dead = .dead := fun id h => by
      rw [hnew id h]
      rcases Nat.lt_or_ge (id - hp.length) news.length with hk | hk
      · exact .inl ⟨id - hp.length, by omega, hnewB _ hk⟩
      · exact .inr (getD_out hk)
    have hwasown : ∀ id, id < hp.length → ((hp1 ++ news).getD id .dead).isOwn = true → (hp.getD id .dead).isOwn = true := fun id h ho => by
      rcases hq id h with ⟨j, h1, h2, _⟩ | ⟨_, h2⟩
      · exact howj j id h1 h2
      · rw [← h2]; exact ho
    have hwaslive : ∀ id, id < hp.length → ((hp1 ++ news).getD id .dead).live = true → (hp.getD id .dead).live = true := fun id h ho => by
      rcases hq id h with ⟨j, h1, h2, _⟩ | ⟨_, h2⟩
      · exact own_live (howj j id h1 h2)
      · rw [← h2]; exact ho
    have hfresh : ∀ k N, (r.hp.getD (ids.length + k) .dead).live = true → ν' (ids.length + k) = some N → w.heap.size ≤ N.g ∨ ∃ j id K, j ∈ r.wr ∧ ids[j]? = some id ∧ ν id = some K ∧ K.g = N.g := fun k N hl hN => by
      rcases inv.fresh (ids.length + k) N (by omega) hl hN with h | ⟨j, K, h1, h2, h3, h4⟩
      · exact .inl h
      · obtain ⟨id, hid⟩ := hids j (by omega)
        rw [e1 j id hid] at h3
        exact .inr ⟨j, id, K, h2, hid, h3, h4⟩
    -- an old block of one's own or in use and a new one
    have hcross : ∀ i k N K, i ∈ F → i < hp.length → ((hp1 ++ news).getD i .dead).live = true → (r.hp.getD (ids.length + k) .dead).live = true → (((hp1 ++ news).getD i .dead).isOwn = true ∨ (r.hp.getD (ids.length + k) .dead).isOwn = true) →
        ν i = some N → ν' (ids.length + k) = some K → N.g ≠ K.g := fun i k N K hiF hi hil hkl hoo hN hK => by
      rcases hfresh k K hkl hK with h | ⟨j, id, M, h1, h2, h3, h4⟩
      · have := (hpre.blk i hiF).lt (hwaslive i hi hil) hN
        omega
      · by_cases e : id = i
        · subst e
          rcases hq id hi with ⟨j', q1, q2, q3⟩ | ⟨q1, _⟩
          · have hjj := hinj j j' id h2 q2
            subst hjj
            have hne : j ≠ ids.length + k := by have := hidlt j id h2; omega
            have hN' : ν' j = some N := by rw [hsame j id h2]; exact hN
            rw [(renB_own q3).1] at hoo
            rw [(renB_own q3).2] at hil
            rcases hoo with ho | ho
            · exact inv.rep.sep j _ N K hne ho hkl hN' hK
            · exact fun e => inv.rep.sep _ j K N (fun e => hne e.symm) ho hil hK hN' e.symm
          · exact absurd h2 (q1 j h1)
        · rw [← h4]
          exact fun e2 => hpre.sep id i M N e (hmem j id h2) hiF (howj j id h1 h2) (hwaslive i hi hil) h3 hN e2.symm
    refine ⟨fun id h => o2 id h, fun id h => ?_, fun id h => ?_, fun i j N K hij hi hj hoi hlj hN hK => ?_, inv.os, inv.tape, inv.output, inv.size, fun g hg hfr => ?_, fun id N h hl hN => ?_⟩
    · have h' : (hp1 ++ news).length ≤ id := h
      rw [List.length_append] at h'
      rw [n2 id (by omega)]
      exact inv.rep.dom _ (by omega)
    · show RepBlk P ν2 w' id ((hp1 ++ news).getD id .dead)
      rcases Nat.lt_or_ge id hp.length with hlt | hge
      · have hidF : id ∈ F := h.resolve_right (by omega)
        rcases hq id hlt with ⟨j, h1, h2, h3⟩ | ⟨h1, h2⟩
        · exact renB_ok hk2 (fun N hN => by rw [hsame j id h2] at hN; exact le2 id N hN) h3 (inv.rep.blk j)
        · rw [h2]
          refine (hpre.blk id hidF).le le2 (fun N hN hl => inv.frame _ ((hpre.blk id hidF).lt hl hN) fun j M hj hjw hM => ?_) inv.size
          obtain ⟨b, hb⟩ := hids j (by omega)
          rw [e1 j b hb] at hM
          exact hpre.sep b id M N (fun e => h1 j hjw (by rw [← e]; exact hb)) (hmem j b hb) hidF (howj j b hjw hb) hl hM hN
      · rcases hnewq id hge with ⟨k, rfl, hk⟩ | hd
        · exact renB_ok hk2 (fun N hN => by rw [n2 _ (by omega), show ids.length + (hp.length + k - hp.length) = ids.length + k by omega]; exact hN) hk (inv.rep.blk _)
        · rw [hd]; trivial
    · replace hoi : ((hp1 ++ news).getD i .dead).isOwn = true := hoi
      replace hlj : ((hp1 ++ news).getD j .dead).live = true := hlj
      rcases Nat.lt_or_ge i hp.length with hi2 | hi2
      · have hiF : i ∈ F := hi.resolve_right (by omega)
        rw [o2 i hi2] at hN
        rcases Nat.lt_or_ge j hp.length with hj2 | hj2
        · have hjF : j ∈ F := hj.resolve_right (by omega)
          rw [o2 j hj2] at hK
          exact hpre.sep i j N K hij hiF hjF (hwasown i hi2 hoi) (hwaslive j hj2 hlj) hN hK
        · rcases hnewq j hj2 with ⟨k, rfl, hk⟩ | hd
          · rw [n2 _ hj2, show ids.length + (hp.length + k - hp.length) = ids.length + k by omega] at hK
            rw [(renB_own hk).2] at hlj
            exact hcross i k N K hiF hi2 (own_live hoi) hlj (.inl hoi) hN hK
          · rw [hd] at hlj; cases hlj
      · rcases hnewq i hi2 with ⟨k, rfl, hk⟩ | hd
        · rw [n2 _ hi2, show ids.length + (hp.length + k - hp.length) = ids.length + k by omega] at hN
          rw [(renB_own hk).1] at hoi
          rcases Nat.lt_or_ge j hp.length with hj2 | hj2
          · have hjF : j ∈ F := hj.resolve_right (by omega)
            rw [o2 j hj2] at hK
            exact fun e => hcross j k K N hjF hj2 hlj (own_live hoi) (.inr hoi) hK hN e.symm
          · rcases hnewq j hj2 with ⟨k', rfl, hk'⟩ | hd
            · rw [n2 _ hj2, show ids.length + (hp.length + k' - hp.length) = ids.length + k' by omega] at hK
              rw [(renB_own hk').2] at hlj
              exact inv.rep.sep _ _ N K (by omega) hoi hlj hN hK
            · rw [hd] at hlj; cases hlj
        · rw [hd] at hoi; cases hoi
    · refine inv.frame g hg fun j N hj hjw hN => ?_
      obtain ⟨b, hb⟩ := hids j (by omega)
      rw [e1 j b hb] at hN
      exact hfr b N (hwrj j b hjw hb) hN
    · replace hl : ((hp1 ++ news).getD id .dead).live = true := hl
      rcases hnewq id h with ⟨k, rfl, hk⟩ | hd
      · rw [n2 _ h, show ids.length + (hp.length + k - hp.length) = ids.length + k by omega] at hN
        rw [(renB_own hk).2] at hl
        rcases hfresh k N hl hN with h | ⟨j, b, K, h1, h2, h3, h4⟩
        · exact .inl h
        · exact .inr ⟨b, K, hwrj j b h1 h2, h3, h4⟩
      · rw [hd] at hl; cases hl
theorem call_sat {inl : CallF} {g : FuncId} {args : List Value} (hinl : ∀ args hp, Sat (inl g args hp) (CallSpec P g args hp)) (hF : ∀ id, id ∈ argIds P hp args → id ∈ F) :
    Sat (callA P inl g args hp) (CallOk P F g args hp) := call_satE (E := Back) hinl hF
end
end Go.Proofs.Ythjlpklloioknaa.Ex
namespace Go.Proofs.Ythjlpklloioknaa.Ex
open Go
set_option linter.unusedVariables false
set_option linter.unusedSimpArgs false
section
variable {P : Program} {F : List Nat} {fr : Fr} {hp : Hp} {o : Oper}
def Named (P : Program) : Prop := ∀ (g : FuncId) (fn : Func), P.funcs[g]? = some fn → (fn.name == "runtime.NumGoroutine") = false
theorem callFunc_run (hN : Named P) {g : FuncId} (hb : bodied P g = true) (args : Array Value) (w : World) : (callFunc g args).run P w = .ok (.enter g args) w := by
  unfold bodied at hb
  split at hb
  · rename_i fn hf
    have h1 := hN g fn hf
    have h2 : fn.body.isNone = false := by cases hx : fn.body with
      | none => rw [hx] at hb; cases hb
      | some b => rfl
    simp [callFunc, hf]
    rw [if_neg (by simpa using h1), if_neg (by intro h; rw [h] at hb; cases hb)]
  · cases hb
theorem func_VR {ν : Nu} {g : FuncId} {f c : Array Value} {v' : Value} (h : VR ν (.func (.func g) f c) v') : ∃ f' c', v' = .func (.func g) f' c' ∧ L2 (VR ν) f.toList f'.toList ∧ L2 (VR ν) c.toList c'.toList := by
  obtain ⟨f', c', rfl, h1, h2⟩ := h
  exact ⟨f', c', rfl, h1.mono fun _ _ h => VR.ofC (VRC.of1 (VR1.of0 h)), h2.mono fun _ _ h => VR.ofC (VRC.of1 (VR1.of0 h))⟩
theorem flat_args {ν : Nu} : ∀ {l l' : List Value}, l.all flat = true → L2 (VR ν) l l' → l' = l
  | [], _, _, .nil => rfl
  | v :: l, _, hf, .cons h hl => by
    simp only [List.all_cons, Bool.and_eq_true] at hf
    rw [(flat_VR hf.1 _).1 h, flat_args hf.2 hl]
theorem callop_sat {call : CallF} (hN : Named P) (hcall : ∀ g args, (∀ id, id ∈ argIds P hp args → id ∈ F) → Sat (call g args hp) (CallOk P F g args hp)) {f : Operand} {xs : Array Operand} {ts : Array TypeId}
    (ho : o.op = .call { callee := .value f, args := xs, argTypes := ts }) (hF : ∀ id, id ∈ footA P fr hp o → id ∈ F) :
    Sat ((lift (val fr f)).bind fun fv => (lift (vals fr xs.toList)).bind fun vs => match fv with
      | .func (.func g) first captured => if bodied P g = true then call g (first.toList ++ vs ++ captured.toList) hp else (extA P fr o g (first.toList ++ vs ++ captured.toList)).map fun v => (⟨v, hp, []⟩ : Res)
      | _ => stop) (OpOk P F fr hp o) := by
  have plain2 : Sat (lift (plainA P fr o)) fun v => OpOk P F fr hp o ⟨v, hp, []⟩ := Sat.lift fun v hv => OpOk.pure fun ν a w he _ => ⟨v, plain_ok hv he w⟩
  refine Sat.bind_lift fun fv hf => Sat.bind_lift fun vs hvs => ?_
  split
  · rename_i g first captured
    by_cases hb : bodied P g = true
    case neg =>
      rw [if_neg hb]
      apply Sat.map
      intro s r he hg
      unfold extA at he
      split at he
      · rename_i q s'
        split at he
        · rename_i hfl
          cases he
          rw [Bool.and_eq_true] at hfl
          have hs : ExtSpec P g (first.toList ++ vs ++ captured.toList) q.v := hg.2 _ (List.mem_singleton.2 rfl)
          refine OpOk.pure fun ν a w he _ => ⟨q.v, ?_, (flat_VR hfl.2 _).2 rfl⟩
          obtain ⟨f', c', e1, h1, h2⟩ := func_VR (he f (by simp [ho, Op.operands, Call.operands]) _ hf)
          have h3 := vals_L2 (ν := ν) (a := a) hvs fun x hx v hv => he x (by simp [ho, Op.operands, Call.operands]; exact .inr (by simpa using hx)) v hv
          have hl : L2 (VR ν) (first.toList ++ vs ++ captured.toList) (f' ++ xs.map a.eval ++ c').toList := by
            rw [Array.toList_append, Array.toList_append, Array.toList_map]
            exact (h1.append h3).append h2
          have hargs := flat_args hfl.1 hl
          have harr : f' ++ xs.map a.eval ++ c' = (first.toList ++ vs ++ captured.toList).toArray := by rw [← hargs]
          simp only [execOp, ho, resolve, e1, Deferred.ofValue, invoke, Sem.run_bind, Sem.run_pure, Result.andThen_ok, harr, hs w]
        · cases he
      · exact plain2 _ _ he hg
    rw [if_pos hb]
    have hids : ∀ id, id ∈ argIds P hp (first.toList ++ vs ++ captured.toList) → id ∈ F := fun id hid => hF id (by
      unfold footA
      rw [ho]
      simp only [hf, hvs]
      exact hid)
    refine (hcall _ _ hids).mono fun r hr => ⟨hr.1, fun ν a w he hpre next Q hnx => ?_⟩
    obtain ⟨f', c', e1, h1, h2⟩ := func_VR (he f (by simp [ho, Op.operands, Call.operands]) _ hf)
    have h3 := vals_L2 (ν := ν) (a := a) hvs fun x hx v hv => he x (by simp [ho, Op.operands, Call.operands]; exact .inr (by simpa using hx)) v hv
    have hrun : (execOp a.eval o).run P w = .ok (.enter g (f' ++ xs.map a.eval ++ c')) w := by
      simp only [execOp, ho, resolve, e1, Deferred.ofValue, invoke, Sem.run_bind, Sem.run_pure, Result.andThen_ok, callFunc_run hN hb]
    have hl : L2 (VR ν) (first.toList ++ vs ++ captured.toList) (f' ++ xs.map a.eval ++ c').toList := by
      rw [Array.toList_append, Array.toList_append, Array.toList_map]
      exact (h1.append h3).append h2
    unfold Oper.wp
    rw [hrun, Oper.upon_enter]
    refine (hr.2 ν w _ hl hpre).mono ?_
    rintro e w' ⟨v', ν', rfl, k1, k2⟩
    exact hnx ν' v' w' k2 k1
  · exact Sat.stop
theorem footO {x : Operand} {v : Value} (hv : val fr x = some v) {id : Nat} (h : id ∈ idsV v) : id ∈ idsO fr x := by
  unfold idsO
  rw [hv]
  exact h
theorem opA_sat {call : CallF} (hN : Named P) (hcall : ∀ g args, (∀ id, id ∈ argIds P hp args → id ∈ F) → Sat (call g args hp) (CallOk P F g args hp)) (hF : ∀ id, id ∈ footA P fr hp o → id ∈ F) :
    Sat (opA P call fr hp o) (OpOk P F fr hp o) := by
  unfold opA
  split
  · rename_i x ho; exact move_sat (.inl ho)
  · rename_i x ho; exact move_sat (.inr ho)
  · rename_i c a b ho; exact pick_sat ho
  · rename_i e ho; exact alloc_sat ho
  · rename_i e x ho; exact box_sat ho
  · rename_i t x ho
    refine Sat.bind_lift fun v hv => load_sat ho hv fun id hid => hF id ?_
    unfold footA
    rw [ho]
    exact footO hv hid
  · rename_i t x y ho
    refine Sat.bind_lift fun av ha => Sat.bind_lift fun v hv => Sat.bind_chk fun hl => store_sat ho ha hv (fun id hid => hF id ?_) hl
    unfold footA
    rw [ho]
    exact footO ha hid
  · rename_i x ho; exact nil_sat ho
  · rename_i s x f ho; exact field_sat ho
  · rename_i t x i ho; exact index_sat ho
  · rename_i t x lo hi ho
    refine cut_sat ho fun v hv id hid => hF id ?_
    unfold footA
    rw [ho]
    exact footO hv hid
  · rename_i t x f ho; exact fieldv_sat ho
  · rename_i t x i ho; exact indexv_sat ho
  · rename_i x i ho; exact extract_sat ho
  · rename_i t ps ho; exact build_sat ho
  · rename_i t n ps ho; exact buildSlice_sat ho
  · rename_i t l c ho; exact makeSlice_sat ho
  · rename_i fn f c ho; exact func_sat ho
  · rename_i src dst x ho
    refine Sat.bind_lift fun v hv => conv_sat ho hv fun id hid => hF id ?_
    unfold footA
    rw [ho]
    exact footO hv hid
  · rename_i op t x y yt ho; exact bin_sat ho
  · rename_i xs ts ho
    refine Sat.bind_lift fun vs hvs => ?_
    split
    · rename_i s x t t2 h0 h1
      have hx : ∀ v, v = s ∨ v = x → ∀ id, id ∈ idsV v → id ∈ F := fun v hv id hid => hF id (by
        unfold footA
        rw [ho]
        obtain ⟨a, b, rfl, ha, hb⟩ := vals_two hvs
        rcases hv with rfl | rfl
        · exact List.mem_flatMap.2 ⟨a, by simp, footO ha hid⟩
        · exact List.mem_flatMap.2 ⟨b, by simp, footO hb hid⟩)
      split
      · rename_i e he; exact append_sat (as := ts) ho h0 h1 (.inl ⟨e, he⟩) hvs (hx s (.inl rfl)) (hx x (.inr rfl))
      · rename_i he; exact append_sat (as := ts) ho h0 h1 (.inr he) hvs (hx s (.inl rfl)) (hx x (.inr rfl))
      · exact Sat.stop
    · exact Sat.stop
  · rename_i xs ts ho
    refine Sat.bind_lift fun vs hvs => ?_
    split
    · rename_i s x t h0
      have hx : ∀ v, v = s ∨ v = x → ∀ id, id ∈ idsV v → id ∈ F := fun v hv id hid => hF id (by
        unfold footA
        rw [ho]
        obtain ⟨a, b, rfl, ha, hb⟩ := vals_two hvs
        rcases hv with rfl | rfl
        · exact List.mem_flatMap.2 ⟨a, by simp, footO ha hid⟩
        · exact List.mem_flatMap.2 ⟨b, by simp, footO hb hid⟩)
      exact copy_sat ho h0 hvs (hx s (.inl rfl)) (hx x (.inr rfl))
    · exact Sat.stop
  · rename_i xs ts ho; exact len_sat ho
  · rename_i f xs ts ho; exact callop_sat hN hcall ho hF
  · exact plain_sat
theorem opS_sat {call : CallF} (hN : Named P) (hcall : ∀ g args, (∀ id, id ∈ argIds P hp args → id ∈ F) → Sat (call g args hp) (CallOk P F g args hp)) (hF : ∀ id, id ∈ footA P fr hp o → id ∈ F) :
    Sat (opS P call fr hp o) (OpOk P F fr hp o) := by
  unfold opS
  refine Sat.bind (opA_sat hN hcall hF) fun r hr => Sat.map (Sat.see.mono fun u hu => ?_)
  subst hu
  exact hr
end
end Go.Proofs.Ythjlpklloioknaa.Ex
namespace Go.Proofs.Ythjlpklloioknaa.Ex
open Go
set_option linter.unusedVariables false
set_option linter.unusedSimpArgs false
section
variable {P : Program} {F : List Nat} {fr : Fr} {hp : Hp} {o : Oper}
theorem Post.le {ν ν' : Nu} {w w' : World} {r : Res} (h : Pre P F ν hp w) (p : Post P F ν hp w r ν' w') : Le ν ν' := fun id N hN => by
  rcases Nat.lt_or_ge id hp.length with hl | hl
  · rw [p.same id hl]; exact hN
  · rw [h.dom id hl] at hN; cases hN
theorem Rep.pre {ν : Nu} {w : World} (h : Rep P ν hp w) (F : List Nat) : Pre P F ν hp w := ⟨h.dom, fun id _ => h.blk id, fun i j N K hij _ _ => h.sep i j N K hij⟩
theorem Inv.step {w0 : World} {ν0 : Nu} {m : Nat} {ν ν' : Nu} {wr : List Nat} {w w' : World} {r : Res} (h : Inv P w0 ν0 m ν hp wr w) (hs : Shape F hp r) (hF : ∀ id, id < hp.length → id ∈ F) (p : Post P F ν hp w r ν' w') :
    Inv P w0 ν0 m ν' r.hp (r.wr ++ wr) w' := by
  have all : ∀ id, id ∈ F ∨ hp.length ≤ id := fun id => by
    rcases Nat.lt_or_ge id hp.length with hl | hl
    · exact .inl (hF id hl)
    · exact .inr hl
  have hlen := h.len
  refine ⟨⟨p.dom, fun id => p.blk id (all id), fun i j N K hij => p.sep i j N K hij (all i) (all j)⟩, Nat.le_trans h.len hs.len, fun id hid => ?_, p.os.trans h.os, p.tape.trans h.tape, p.output.trans h.output, Nat.le_trans h.size p.size, fun g hg hfr => ?_, fun id N hid hl hN => ?_⟩
  · rw [p.same id (by omega), h.same id hid]
  · have h1 := h.frame g hg fun id N hid hw hN => hfr id N hid (by simp [hw]) hN
    rw [← h1]
    refine p.frame g (Nat.lt_of_lt_of_le hg h.size) fun id N hid hN => ?_
    rcases Nat.lt_or_ge id m with hm | hm
    · rw [h.same id hm] at hN
      exact hfr id N hm (by simp [hid]) hN
    · rcases h.fresh id N hm (own_live (hs.own id hid)) hN with k | ⟨j, K, k1, k2, k3, k4⟩
      · omega
      · rw [← k4]
        exact hfr j K k1 (by simp [k2]) k3
  · rcases Nat.lt_or_ge id hp.length with hlt | hge
    · rw [p.same id hlt] at hN
      have hl2 : (hp.getD id .dead).live = true := by
        by_cases c : id ∈ r.wr
        · exact own_live (hs.own id c)
        · rw [← hs.keep id hlt c]; exact hl
      rcases h.fresh id N hid hl2 hN with k | ⟨j, K, k1, k2, k3⟩
      · exact .inl k
      · exact .inr ⟨j, K, k1, by simp [k2], k3⟩
    · rcases p.fresh id N hge hl hN with k | ⟨j, K, k1, k2, k3⟩
      · exact .inl (Nat.le_trans h.size k)
      · rcases Nat.lt_or_ge j m with hm | hm
        · rw [h.same j hm] at k2
          exact .inr ⟨j, K, hm, by simp [k1], k2, k3⟩
        · rcases h.fresh j K hm (own_live (hs.own j k1)) k2 with q | ⟨i, M, q1, q2, q3, q4⟩
          · exact .inl (by omega)
          · exact .inr ⟨i, M, q1, by simp [q2], q3, q4.trans k3⟩
theorem FrRel.le {ν ν' : Nu} {tmps : Array Value} (hl : Le ν ν') (h : FrRel ν fr tmps) : FrRel ν' fr tmps :=
  ⟨h.1, fun t v hv => let ⟨v', h1, h2⟩ := h.2 t v hv; ⟨v', h1, h2.le hl⟩⟩
theorem FrRel.put {ν : Nu} {a : Act} {v v' : Value} {d : Option Tmp} (h : FrRel ν fr a.tmps) (hv : VR ν v v') : FrRel ν (putT fr d v) (a.put d v').tmps := by
  cases d with
  | none => exact h
  | some d =>
    refine ⟨by simp [putT, Act.put, Fr.set_n, h.1], fun t u hu => ?_⟩
    simp only [putT] at hu
    simp only [Act.put]
    by_cases c : d = t
    · subst c
      obtain ⟨hd, hu⟩ := Fr.get_set _ hu
      cases hu
      exact ⟨v', by simp [← h.1, hd], hv⟩
    · rw [Fr.get_ne _ _ c] at hu
      obtain ⟨u', h1, h2⟩ := h.2 t u hu
      exact ⟨u', by rw [Array.getElem?_setIfInBounds_ne c]; exact h1, h2⟩
theorem put_defers {a : Act} {d : Option Tmp} {v : Value} : (a.put d v).defers = a.defers := by cases d <;> rfl
theorem want_sat {ops : Array Oper} : Sat (wantA ops fr o) fun b => ∀ ν (tmps : Array Value), FrRel ν fr tmps → Region.wanted o (yielded ops tmps) = b := by
  unfold wantA
  split
  · rename_i hg
    exact Sat.ret _ fun ν tmps h => by simp [Region.wanted, hg]
  · rename_i j want hg
    split
    · rename_i hd
      exact Sat.ret _ fun ν tmps h => by simp [Region.wanted, hg, yielded, hd]
    · rename_i d hd
      split
      · rename_i b hb
        refine Sat.bind_ask (Sat.ret _ fun ν tmps h => ?_)
        obtain ⟨v', h1, h2⟩ := h.2 d _ hb
        have : v' = .bool b := h2
        subst this
        simp [Region.wanted, hg, yielded, hd, h1]
      · rename_i hb
        refine Sat.ret _ fun ν tmps h => ?_
        obtain ⟨v', h1, h2⟩ := h.2 d _ hb
        obtain ⟨cs', rfl, hl⟩ := h2
        simp [Region.wanted, hg, yielded, hd, h1]
      · exact Sat.stop
def Sound (P : Program) (call : CallF) : Prop := ∀ (F : List Nat) g args (hp : Hp), (∀ id, id ∈ argIds P hp args → id ∈ F) → Sat (call g args hp) (CallOk P F g args hp)
def OpsSpec (P : Program) (all : Array Oper) (os : List Oper) (fr : Fr) (hp : Hp) (wr : List Nat) (fr' : Fr) (hp' : Hp) (wr' : List Nat) : Prop :=
  ∀ w0 ν0 m ν wx (a : Act) w (Q : Exit → Act → World → Prop), Inv P w0 ν0 m ν hp (wr ++ wx) w → FrRel ν fr a.tmps →
    (∀ ν' (a' : Act) w', Inv P w0 ν0 m ν' hp' (wr' ++ wx) w' → FrRel ν' fr' a'.tmps → a'.defers = a.defers → Q .normal a' w') → wpList P all Q os a w
theorem ops_sat {call : CallF} (hN : Named P) (hcall : Sound P call) {all : Array Oper} : ∀ (os : List Oper) (fr : Fr) (hp : Hp) (wr : List Nat) (st : List Step),
    Sat (opsA P call all os fr hp wr st) fun r => OpsSpec P all os fr hp wr r.1 r.2.1 r.2.2.1
  | [], fr, hp, wr, st => Sat.ret _ fun w0 ν0 m ν wx a w Q hi hfr hQ => hQ ν a w hi hfr rfl
  | o :: os, fr, hp, wr, st => by
    unfold opsA
    refine Sat.bind want_sat fun b hb => ?_
    split
    · rename_i hbt
      subst hbt
      have hop : Sat (opS P call fr hp o) (OpOk P (List.range hp.length ++ footA P fr hp o) fr hp o) :=
        opS_sat hN (fun g args hids => hcall _ g args hp hids) fun id hid => List.mem_append.2 (.inr hid)
      refine Sat.bind hop fun r hr => (ops_sat hN hcall os _ _ _ _).mono fun q hq => ?_
      intro w0 ν0 m ν wx a w Q hi hfr hQ
      unfold wpList
      rw [if_pos (hb ν a.tmps hfr)]
      refine .inl (hr.2 ν a w (fun x _ v hv => val_eval hfr hv) (hi.rep.pre _) _ _ fun ν' v' w' hp' hv' => ?_)
      have hi' := hi.step hr.1 (fun id hid => List.mem_append.2 (.inl (List.mem_range.2 hid))) hp'
      rw [← List.append_assoc] at hi'
      exact hq w0 ν0 m ν' wx _ w' Q hi' ((hfr.le (Post.le (hi.rep.pre _) hp')).put hv') fun ν2 a2 w2 k1 k2 k3 => hQ ν2 a2 w2 k1 k2 (k3.trans put_defers)
    · rename_i hbf
      have hbf : b = false := by simpa using hbf
      subst hbf
      refine (ops_sat hN hcall os _ _ _ _).mono fun q hq => ?_
      intro w0 ν0 m ν wx a w Q hi hfr hQ
      unfold wpList
      rw [if_neg (by rw [hb ν a.tmps hfr]; simp)]
      exact hq w0 ν0 m ν wx _ w Q hi (hfr.put ⟨#[], rfl, .nil⟩) fun ν2 a2 w2 k1 k2 k3 => hQ ν2 a2 w2 k1 k2 (k3.trans put_defers)
end
end Go.Proofs.Ythjlpklloioknaa.Ex
namespace Go.Proofs.Ythjlpklloioknaa.Ex
open Go
set_option linter.unusedVariables false
set_option linter.unusedSimpArgs false
section
variable {P : Program} {fr : Fr} {hp : Hp} {m : Nat}
theorem Inv.weaken {ids : List Nat} {w0 : World} {ν0 : Nu} {m : Nat} {ν : Nu} {wr : List Nat} {w : World} {hp2 : Hp} (hnd : ids.Nodup) (htk : ids.take m = List.range m)
    (hs : mapL (fun b => renB P (posIn ids) (hp.getD b .dead)) ids = some hp2) (h : Inv P w0 ν0 m ν hp wr w) :
    Kept (posIn ids) ν (fun j => (ids[j]?).bind ν) ∧ Inv P w0 ν0 m (fun j => (ids[j]?).bind ν) hp2 (wr.filter (· < m)) w := by
  have hsl := (mapL_L2 hs).len
  have hsub : ∀ j id, ids[j]? = some id → renB P (posIn ids) (hp.getD id .dead) = some (hp2.getD j .dead) := fun j id hj => by
    obtain ⟨b, k1, k2⟩ := (mapL_L2 hs).get j id hj
    rw [getD_of k1]
    exact k2
  have hids : ∀ j, j < ids.length → ∃ id, ids[j]? = some id := fun j hj => ⟨ids[j], by simp [hj]⟩
  have hidlt : ∀ j id, ids[j]? = some id → j < ids.length := fun j id hj => by
    rcases Nat.lt_or_ge j ids.length with h | h
    · exact h
    · rw [List.getElem?_eq_none h] at hj; cases hj
  have hinj : ∀ i j id, ids[i]? = some id → ids[j]? = some id → i = j := fun i j id hi hj => (List.getElem?_inj (hidlt i id hi) hnd).1 (hi.trans hj.symm)
  have hm : m ≤ ids.length := by
    have := congrArg List.length htk
    rw [List.length_take, List.length_range] at this
    omega
  have hfirst : ∀ j, j < m → ids[j]? = some j := fun j hj => by
    have h1 : (ids.take m)[j]? = some j := by rw [htk, List.getElem?_range hj]
    rw [List.getElem?_take, if_pos hj] at h1
    exact h1
  have e1 : ∀ (j id : Nat), ids[j]? = some id → (ids[j]?).bind ν = ν id := fun j id hj => by rw [hj]; rfl
  have hsub0 : ∀ j, ids.length ≤ j → hp2.getD j .dead = .dead := fun j hj => getD_out (by omega)
  have hk : Kept (posIn ids) ν (fun j => (ids[j]?).bind ν) := fun b j N hb hN => by
    show (ids[j]?).bind ν = _
    rw [e1 j b (posIn_some hb)]; exact hN
  refine ⟨hk, ⟨fun j hj => ?_, fun j => ?_, fun i j N K hij hi hj hN hK => ?_⟩, by omega, fun id hid => ?_, h.os, h.tape, h.output, h.size, fun g hg hfr => h.frame g hg fun id N hid hw hN => hfr id N hid (by simp [hw, hid]) hN, fun id N hid hl hN => ?_⟩
  · show (ids[j]?).bind ν = none
    rw [List.getElem?_eq_none (by omega)]
    rfl
  · rcases Nat.lt_or_ge j ids.length with hj | hj
    · obtain ⟨id, hid⟩ := hids j hj
      exact renB_ok hk (fun N hN => by show (ids[j]?).bind ν = _; rw [e1 j id hid]; exact hN) (hsub j id hid) (h.rep.blk id)
    · rw [hsub0 j hj]; trivial
  · have hi' : i < ids.length := by
      rcases Nat.lt_or_ge i ids.length with h | h
      · exact h
      · rw [hsub0 i h] at hi; cases hi
    have hj' : j < ids.length := by
      rcases Nat.lt_or_ge j ids.length with h | h
      · exact h
      · rw [hsub0 j h] at hj; cases hj
    obtain ⟨a, ha⟩ := hids i hi'
    obtain ⟨b, hb⟩ := hids j hj'
    rw [(renB_own (hsub i a ha)).1] at hi
    rw [(renB_own (hsub j b hb)).2] at hj
    replace hN : (ids[i]?).bind ν = some N := hN
    replace hK : (ids[j]?).bind ν = some K := hK
    rw [e1 i a ha] at hN
    rw [e1 j b hb] at hK
    exact h.rep.sep a b N K (fun e => hij (hinj i j a ha (by rw [e]; exact hb))) hi hj hN hK
  · show (ids[id]?).bind ν = _
    rw [e1 id id (hfirst id hid)]
    exact h.same id hid
  · rcases Nat.lt_or_ge id ids.length with hlt | hge
    · obtain ⟨b, hb⟩ := hids id hlt
      replace hN : (ids[id]?).bind ν = some N := hN
      rw [e1 id b hb] at hN
      rw [(renB_own (hsub id b hb)).2] at hl
      have hbm : m ≤ b := by
        rcases Nat.lt_or_ge b m with c | c
        · have := hinj id b b hb (hfirst b c)
          omega
        · exact c
      rcases h.fresh b N hbm hl hN with k | ⟨j, K, k1, k2, k3⟩
      · exact .inl k
      · exact .inr ⟨j, K, k1, by simp [k2, k1], k3⟩
    · rw [hsub0 id hge] at hl; cases hl
theorem Inv.wrs {w0 : World} {ν0 ν : Nu} {wr wr' : List Nat} {w : World} (h : Inv P w0 ν0 m ν hp wr w) (hw : ∀ j, j ∈ wr → j < m → j ∈ wr') : Inv P w0 ν0 m ν hp wr' w :=
  ⟨h.rep, h.len, h.same, h.os, h.tape, h.output, h.size, fun g hg hf => h.frame g hg fun id N hid hin hN => hf id N hid (hw id hin hid) hN, fun id N hid hl hN =>
    (h.fresh id N hid hl hN).imp (fun x => x) fun ⟨j, K, k1, k2, k3, k4⟩ => ⟨j, K, k1, hw j k2 k1, k3, k4⟩⟩
theorem keepT_get (fr : Fr) : ∀ (keep : List Nat) (t : Nat) (v : Value), (t, v) ∈ keepT fr keep → fr.get t = some v
  | [], t, v, h => by cases h
  | k :: r, t, v, h => by
    unfold keepT at h
    split at h
    · rename_i u hu
      rcases List.mem_cons.1 h with h | h
      · cases h; exact hu
      · exact keepT_get fr r t v h
    · exact keepT_get fr r t v h
theorem renF_ok {f : Nat → Option Nat} {ν ν1 : Nu} (hk : Kept f ν ν1) : ∀ {l l2 : List (Nat × Value)}, renF f l = some l2 → ∀ (t : Nat) v, (t, v) ∈ l2 → ∃ u, (t, u) ∈ l ∧ ∀ v', VR ν u v' → VR ν1 v v'
  | [], l2, h, t, v, hv => by
    simp only [renF, Option.some.injEq] at h
    subst h
    cases hv
  | (s, x) :: r, l2, h, t, v, hv => by
    simp only [renF] at h
    cases hx : ren f x with
    | none => rw [hx] at h; cases h
    | some x2 =>
      cases hr : renF f r with
      | none => rw [hx, hr] at h; cases h
      | some r2 =>
        rw [hx, hr] at h
        simp only [Option.map_some, Option.bind_some, Option.some.injEq] at h
        subst h
        rcases List.mem_cons.1 hv with hv | hv
        · cases hv
          exact ⟨x, List.mem_cons_self, fun v' hv' => ren_ok hk hx hv'⟩
        · obtain ⟨u, h1, h2⟩ := renF_ok hk hr t v hv
          exact ⟨u, List.mem_cons_of_mem _ h1, h2⟩
theorem tidy_inv {keep : List Nat} {o o2 : Out} (h : tidy P m keep o = some o2) : o2.ex = o.ex ∧ o2.wr = o.wr.filter (· < m) ∧
    ∀ {w0 : World} {ν0 ν : Nu} {wr : List Nat} {w : World} {tmps : Array Value}, Inv P w0 ν0 m ν o.hp wr w → FrRel ν o.fr tmps → ∃ ν', Inv P w0 ν0 m ν' o2.hp wr w ∧ FrRel ν' o2.fr tmps := by
  unfold tidy at h
  dsimp only at h
  revert h
  have hnd : (reach P o.hp deep (List.range m ++ frIds (keepT o.fr keep)) []).Nodup := reach_nodup _ _ _ (by simp)
  revert hnd
  generalize reach P o.hp deep (List.range m ++ frIds (keepT o.fr keep)) [] = ids
  intro hnd h
  cases hf : renF (posIn ids) (keepT o.fr keep) with
  | none => rw [hf] at h; cases h
  | some fr2 =>
    cases hs : mapL (fun b => renB P (posIn ids) (o.hp.getD b .dead)) ids with
    | none => rw [hf, hs] at h; cases h
    | some hp2 =>
      rw [hf, hs] at h
      simp only [Option.bind_some] at h
      split at h
      · rename_i htk
        cases h
        refine ⟨rfl, rfl, fun {w0 ν0 ν wr w tmps} hi hfr => ?_⟩
        obtain ⟨hk, hi2⟩ := Inv.weaken hnd htk hs hi
        refine ⟨_, hi2.wrs fun j hj _ => (List.mem_filter.1 hj).1, ?_⟩
        refine ⟨by rw [frOf_n]; exact hfr.1, fun t v hv => ?_⟩
        obtain ⟨u, k1, k2⟩ := renF_ok hk hf t v (frOf_get _ _ t v hv)
        obtain ⟨v', q1, q2⟩ := hfr.2 t u (keepT_get _ _ t u k1)
        exact ⟨v', q1, k2 v' q2⟩
      · cases h
end
end Go.Proofs.Ythjlpklloioknaa.Ex
namespace Go.Proofs.Ythjlpklloioknaa.Ex
open Go
set_option linter.unusedVariables false
set_option linter.unusedSimpArgs false
section
variable {P : Program} {fr : Fr} {hp : Hp}
def Drawn (P : Program) (call : CallF) : Prop := ∀ (id m : Nat) (ops : Array Oper) (fr : Fr) (hp : Hp),
  calmS ops = true → Sat ((opsA P call ops ops.toList fr hp [] []).bind fun r => (chk (calm ops r.2.2.2)).bind fun _ => ret (⟨.normal, r.1, r.2.1, r.2.2.1⟩ : Out)) (CodeSpec P m (.region id ops true) fr hp)
theorem iter_sat {c : Code} {m : Nat} {f : Fr → Hp → M Out} (hf : ∀ fr hp, Sat (f fr hp) (CodeSpec P m c fr hp)) : ∀ (n : Nat) (fr : Fr) (hp : Hp) (wr : List Nat),
    Sat (iter f n fr hp wr) fun o => ∀ w0 ν0 ν wx (a : Act) w (Q : Exit → Act → World → Prop), Inv P w0 ν0 m ν hp (wr ++ wx) w → FrRel ν fr a.tmps →
      (∀ ν' (a' : Act) w', Inv P w0 ν0 m ν' o.hp (o.wr ++ wx) w' → FrRel ν' o.fr a'.tmps → a'.defers = a.defers → Q o.ex.of a' w') → Code.rounds P c Q n a w
  | 0, fr, hp, wr => Sat.stop
  | n + 1, fr, hp, wr => by
    unfold iter
    refine Sat.bind (hf fr hp) fun r hr => ?_
    split
    · rename_i he
      refine (iter_sat hf n _ _ _).mono fun o ho => ?_
      intro w0 ν0 ν wx a w Q hi hfr hQ
      rw [rounds_succ]
      refine hr w0 ν0 ν (wr ++ wx) a w _ hi hfr fun ν' a' w' k1 k2 k3 => ?_
      rw [he]
      rw [← List.append_assoc] at k1
      exact ho w0 ν0 ν' wx a' w' Q k1 k2 fun ν2 a2 w2 q1 q2 q3 => hQ ν2 a2 w2 q1 q2 (q3.trans k3)
    · rename_i he
      refine Sat.ret _ fun w0 ν0 ν wx a w Q hi hfr hQ => ?_
      rw [rounds_succ]
      refine hr w0 ν0 ν (wr ++ wx) a w _ hi hfr fun ν' a' w' k1 k2 k3 => ?_
      rw [← List.append_assoc] at k1
      have := hQ ν' a' w' k1 k2 k3
      revert this
      cases hx : r.ex with
      | normal => exact absurd hx he
      | exit j => exact id
      | ret => exact id
      | pan ch => exact id
theorem run_sat {call : CallF} (hN : Named P) (hcall : Sound P call) (hD : Drawn P call) {m n : Nat} : ∀ (c : Code) (fr : Fr) (hp : Hp), calmC c = true → Sat (run P call m n c fr hp) (CodeSpec P m c fr hp)
  | .skip, fr, hp, _ => Sat.ret _ fun w0 ν0 ν wx a w Q hi hfr hQ => wp_skip (hQ ν a w hi hfr rfl)
  | .label _, fr, hp, _ => Sat.ret _ fun w0 ν0 ν wx a w Q hi hfr hQ => wp_label (hQ ν a w hi hfr rfl)
  | .region id ops draw, fr, hp, hc => by
    have key : Sat ((opsA P call ops ops.toList fr hp [] []).bind fun r => (chk (!draw || calm ops r.2.2.2)).bind fun _ => ret (⟨.normal, r.1, r.2.1, r.2.2.1⟩ : Out)) (CodeSpec P m (.region id ops draw) fr hp) := by
      cases draw with
      | false =>
        refine Sat.bind (ops_sat hN hcall ops.toList fr hp [] []) fun r hr => Sat.bind_chk fun _ => Sat.ret _ ?_
        intro w0 ν0 ν wx a w Q hi hfr hQ
        exact wp_region_list (hr w0 ν0 m ν wx a w Q hi hfr fun ν' a' w' k1 k2 k3 => hQ ν' a' w' k1 k2 k3)
      | true => exact hD id m ops fr hp (by simpa [calmC] using hc)
    unfold run
    intro o r he hg
    dsimp only at he
    split at he
    · rename_i keep q o'
      cases ht : tidy P m keep ⟨.normal, fr, hp, []⟩ with
      | none => rw [ht] at he; cases he
      | some t =>
        rw [ht] at he
        cases he
        have hs : CodeSpec P m (.region id ops draw) t.fr t.hp q := hg.2 _ (List.mem_singleton.2 rfl)
        exact fun w0 ν0 ν wr a w Q hi hfr hQ => let ⟨ν', h1, h2⟩ := (tidy_inv ht).2.2 hi hfr; hs w0 ν0 ν' wr a w Q h1 h2 hQ
    · exact key _ _ he hg
  | .seq x y, fr, hp, hc => by
    have hc : calmC x = true ∧ calmC y = true := by simpa [calmC] using hc
    unfold run
    refine Sat.bind (run_sat hN hcall hD x fr hp hc.1) fun r hr => ?_
    split
    · rename_i he
      refine Sat.map ((run_sat hN hcall hD y _ _ hc.2).mono fun q hq => ?_)
      intro w0 ν0 ν wx a w Q hi hfr hQ
      refine wp_seq (hr w0 ν0 ν wx a w _ hi hfr fun ν' a' w' k1 k2 k3 => ?_)
      rw [he]
      refine hq w0 ν0 ν' (r.wr ++ wx) a' w' Q k1 k2 fun ν2 a2 w2 q1 q2 q3 => hQ ν2 a2 w2 ?_ q2 (q3.trans k3)
      rw [← List.append_assoc] at q1
      exact q1
    · rename_i he
      refine Sat.ret _ ?_
      intro w0 ν0 ν wx a w Q hi hfr hQ
      refine wp_seq (hr w0 ν0 ν wx a w _ hi hfr fun ν' a' w' k1 k2 k3 => ?_)
      have := hQ ν' a' w' k1 k2 k3
      revert this
      cases hx : r.ex with
      | normal => exact absurd hx he
      | exit j => exact id
      | ret => exact id
      | pan ch => exact id
  | .cond c x y, fr, hp, hc => by
    have hc : calmC x = true ∧ calmC y = true := by simpa [calmC] using hc
    have key : Sat ((lift (val fr c)).bind fun v => match v with
      | .bool b => (ask b).bind fun b => if b = true then run P call m n x fr hp else run P call m n y fr hp
      | _ => stop) (CodeSpec P m (.cond c x y) fr hp) := by
      refine Sat.bind_lift fun v hv => ?_
      split
      · rename_i b
        refine Sat.bind_ask ?_
        split
        · rename_i hb
          subst hb
          refine (run_sat hN hcall hD x fr hp hc.1).mono fun r hr => ?_
          intro w0 ν0 ν wx a w Q hi hfr hQ
          exact wp_cond_true (val_eval hfr hv) (hr w0 ν0 ν wx a w Q hi hfr hQ)
        · rename_i hb
          have hb : b = false := by simpa using hb
          subst hb
          refine (run_sat hN hcall hD y fr hp hc.2).mono fun r hr => ?_
          intro w0 ν0 ν wx a w Q hi hfr hQ
          exact wp_cond_false (val_eval hfr hv) (hr w0 ν0 ν wx a w Q hi hfr hQ)
      · exact Sat.stop
    unfold run
    intro o r he hg
    dsimp only at he
    split at he
    · rename_i keep q o'
      cases ht : tidy P m keep ⟨.normal, fr, hp, []⟩ with
      | none => rw [ht] at he; cases he
      | some t =>
        rw [ht] at he
        cases he
        have hs : CodeSpec P m (.cond c x y) t.fr t.hp q := hg.2 _ (List.mem_singleton.2 rfl)
        exact fun w0 ν0 ν wr a w Q hi hfr hQ => let ⟨ν', h1, h2⟩ := (tidy_inv ht).2.2 hi hfr; hs w0 ν0 ν' wr a w Q h1 h2 hQ
    · exact key _ _ he hg
  | .block id c, fr, hp, hc => by
    have hc : calmC c = true := by simpa [calmC] using hc
    unfold run
    refine Sat.map ((run_sat hN hcall hD c fr hp hc).mono fun r hr => ?_)
    intro w0 ν0 ν wx a w Q hi hfr hQ
    refine wp_block (hr w0 ν0 ν wx a w _ hi hfr fun ν' a' w' k1 k2 k3 => ?_)
    cases hx : r.ex with
    | normal =>
      simp only [hx] at hQ
      exact hQ ν' a' w' k1 k2 k3
    | ret =>
      simp only [hx] at hQ
      exact hQ ν' a' w' k1 k2 k3
    | pan ch =>
      simp only [hx] at hQ
      exact hQ ν' a' w' k1 k2 k3
    | exit j =>
      simp only [hx] at hQ
      show if j = id then Q .normal a' w' else Q (.exit j) a' w'
      split
      · rename_i hj
        rw [if_pos hj] at hQ
        exact hQ ν' a' w' k1 k2 k3
      · rename_i hj
        rw [if_neg hj] at hQ
        exact hQ ν' a' w' k1 k2 k3
  | .loop c, fr, hp, hc => by
    have hc : calmC c = true := by simpa [calmC] using hc
    have key : Sat (iter (run P call m n c) n fr hp []) (CodeSpec P m (.loop c) fr hp) :=
      (iter_sat (fun fr hp => run_sat hN hcall hD c fr hp hc) n fr hp []).mono fun r hr w0 ν0 ν wx a w Q hi hfr hQ => wp_loop_rounds n (hr w0 ν0 ν wx a w Q hi hfr hQ)
    unfold run
    intro o r he hg
    dsimp only at he
    split at he
    · rename_i keep q o'
      cases ht : tidy P m keep ⟨.normal, fr, hp, []⟩ with
      | none => rw [ht] at he; cases he
      | some t =>
        rw [ht] at he
        cases he
        have hs : CodeSpec P m (.loop c) t.fr t.hp q := hg.2 _ (List.mem_singleton.2 rfl)
        exact fun w0 ν0 ν wr a w Q hi hfr hQ => let ⟨ν', h1, h2⟩ := (tidy_inv ht).2.2 hi hfr; hs w0 ν0 ν' wr a w Q h1 h2 hQ
    · cases he
    · exact key _ _ he hg
    · exact key _ _ he hg
  | .exit id, fr, hp, _ => Sat.ret _ fun w0 ν0 ν wx a w Q hi hfr hQ => wp_exit (hQ ν a w hi hfr rfl)
  | .ret, fr, hp, _ => Sat.ret _ fun w0 ν0 ν wx a w Q hi hfr hQ => wp_ret (hQ ν a w hi hfr rfl)
  | .rangeFunc _ _ _ _, fr, hp, _ => Sat.stop
  | .scope _, fr, hp, _ => Sat.stop
  | .goto _, fr, hp, _ => Sat.stop
  | .refuse _, fr, hp, _ => Sat.stop
end
end Go.Proofs.Ythjlpklloioknaa.Ex
namespace Go.Proofs.Ythjlpklloioknaa.Ex
open Go
set_option linter.unusedVariables false
set_option linter.unusedSimpArgs false
section
variable {P : Program} {fr : Fr} {hp : Hp}
theorem loadA_sat {t : TypeId} {v : Value} : Sat (loadA P hp t v) fun u => ∀ ν (w : World) v', Rep P ν hp w → VR ν v v' → ∃ ad u', v' = .pointer (some ad) ∧ (loadVar t ad).run P w = .ok u' w ∧ VR ν u u' := by
  unfold loadA
  split
  · rename_i b off
    refine Sat.bind_lift fun cs hc => Sat.bind_lift fun g hg => ?_
    cases g with
    | true =>
      rw [if_pos rfl]
      refine Sat.bind_lift fun n hn => Sat.bind_chk fun hle => Sat.ret _ fun ν w v' hr hv => ?_
      obtain ⟨N, h1, rfl⟩ := VR.ptr hv
      obtain ⟨N', h1', h2, _⟩ := load_ok (o := off) (hr.blk b) hc hg
      rw [h1] at h1'
      cases h1'
      obtain ⟨u', h3, h4⟩ := h2 rfl n hn (by simpa using hle)
      exact ⟨_, u', rfl, h3, h4⟩
    | false =>
      rw [if_neg Bool.false_ne_true]
      refine Sat.bind_chk fun hlt => Sat.asT.mono fun u hu ν w v' hr hv => ?_
      subst hu
      obtain ⟨N, h1, rfl⟩ := VR.ptr hv
      obtain ⟨N', h1', _, h2⟩ := load_ok (o := off) (hr.blk b) hc hg
      rw [h1] at h1'
      cases h1'
      obtain ⟨u', h3, h4⟩ := h2 rfl (by simpa using hlt)
      exact ⟨_, u', rfl, h3, h4⟩
  · exact Sat.stop
def resOf (tmps : Array Value) : ResultVar → Sem Value
  | .tmp t => pure (tmps.getD t undef)
  | .cell a t => do loadVar t (← asAddr (tmps.getD a undef))
theorem resA_sat : ∀ (rs : List ResultVar), Sat (resA P fr hp rs) fun vs => ∀ ν (tmps : Array Value) (w : World), Rep P ν hp w → FrRel ν fr tmps → ∃ vs', (rs.mapM (resOf tmps)).run P w = .ok vs' w ∧ L2 (VR ν) vs vs'
  | [] => Sat.ret _ fun ν tmps w _ _ => ⟨[], rfl, .nil⟩
  | .tmp t :: r => by
    unfold resA
    refine Sat.bind_lift fun v hv => Sat.map ((resA_sat r).mono fun vs hvs ν tmps w hr hf => ?_)
    obtain ⟨vs', h1, h2⟩ := hvs ν tmps w hr hf
    obtain ⟨v', h3, h4⟩ := hf.2 t v hv
    refine ⟨v' :: vs', ?_, .cons h4 h2⟩
    have : tmps.getD t undef = v' := by rw [Array.getD_eq_getD_getElem?, h3]; rfl
    simp only [List.mapM_cons, resOf, Sem.run_bind, Sem.run_pure, Result.andThen_ok, this, h1]
  | .cell x t :: r => by
    unfold resA
    refine Sat.bind_lift fun av hav => Sat.bind loadA_sat fun v hv => Sat.map ((resA_sat r).mono fun vs hvs ν tmps w hr hf => ?_)
    obtain ⟨vs', h1, h2⟩ := hvs ν tmps w hr hf
    obtain ⟨a', h3, h4⟩ := hf.2 x av hav
    obtain ⟨ad, u', rfl, h5, h6⟩ := hv ν w a' hr h4
    refine ⟨u' :: vs', ?_, .cons h6 h2⟩
    have : tmps.getD x undef = .pointer (some ad) := by rw [Array.getD_eq_getD_getElem?, h3]; rfl
    simp only [List.mapM_cons, resOf, Sem.run_bind, Sem.run_pure, Result.andThen_ok, this, asAddr, h5, h1]
theorem results_run {fn : Func} {tmps : Array Value} {w : World} {vs' : List Value} (h : (fn.results.toList.mapM (resOf tmps)).run P w = .ok vs' w) : (results fn tmps).run P w = .ok (tie vs') w := by
  change Sem.run P (do let vs ← fn.results.mapM (resOf tmps); pure (if h : vs.size = 1 then vs[0] else .tuple vs)) w = _
  rw [Array.mapM_eq_mapM_toList]
  simp only [Sem.run_bind, Sem.run_map, h, Result.andThen_ok, Sem.run_pure]
  congr 1
  match vs' with
  | [] => rfl
  | [v] => rfl
  | v :: u :: r => simp [tie]
theorem tie_VR {ν : Nu} {vs vs' : List Value} (h : L2 (VR ν) vs vs') (hl : vs.all lvlC = true) : VR ν (tie vs) (tie vs') := by
  have all : ∀ {vs vs' : List Value}, L2 (VR ν) vs vs' → vs.all lvlC = true → L2 (VRC ν) vs vs' := by
    intro vs vs' h
    induction h with
    | nil => intro _; exact .nil
    | cons a _ ih => intro hl; simp only [List.all_cons, Bool.and_eq_true] at hl; exact .cons (a.toC hl.1) (ih hl.2)
  match vs, vs', h with
  | [], _, .nil => exact ⟨#[], rfl, .nil⟩
  | [v], _, .cons a .nil => exact a
  | v :: u :: r, _, .cons a (.cons b c) => exact ⟨_, rfl, by simpa using all (.cons a (.cons b c)) hl⟩
theorem exec_sat (hN : Named P) (hC : Calm P) (hD : ∀ call, Sound P call → Drawn P call) : ∀ (n : Nat) (g : FuncId) (args : List Value) (hp : Hp), Sat (exec P n g args hp) (CallSpec P g args hp)
  | 0, g, args, hp => Sat.stop
  | n + 1, g, args, hp => by
    have told : ∀ g args hp, Sat (toldA P (exec P n) g args hp) (CallSpec P g args hp) := by
      intro g args hp o r he hg
      unfold toldA at he
      split at he
      · cases he
        exact hg.2 _ (by simp)
      · cases he
      · exact exec_sat hN hC hD n g args hp _ _ he hg
      · exact exec_sat hN hC hD n g args hp _ _ he hg
    have hS : Sound P (callA P (toldA P (exec P n))) := fun F g args hp hF => call_sat (fun args hp => told g args hp) hF
    unfold exec
    refine Sat.bind_lift fun fn hfn => Sat.bind_lift fun c hc => Sat.bind_chk fun hle => Sat.bind (run_sat hN hS (hD _ hS) c _ hp (hC _ _ _ hfn hc)) fun r hr => ?_
    have hle' : args.length ≤ fn.ntmps := of_decide_eq_true hle
    have key : (r.ex = .normal ∨ r.ex = .ret) → Sat ((resA P r.fr r.hp fn.results.toList).bind fun vs => (chk (vs.all lvlC)).bind fun _ => lift (outA P hp.length (tie vs) r.hp r.wr)) (CallSpec P g args hp) := by
      intro hex
      refine Sat.bind (resA_sat _) fun vs hvs => Sat.bind_chk fun hlc => Sat.lift fun q hq => ?_
      unfold outA at hq
      intro ν w args' hargs hrep
      dsimp only at hq
      revert hq
      have hnd : (reach P r.hp deep (List.range hp.length ++ idsV (tie vs)) []).Nodup := reach_nodup _ _ _ (by simp)
      revert hnd
      generalize reach P r.hp deep (List.range hp.length ++ idsV (tie vs)) [] = ids
      intro hnd hq
      cases hv : ren (posIn ids) (tie vs) with
      | none => rw [hv] at hq; cases hq
      | some v2 =>
        cases hs : mapL (fun b => renB P (posIn ids) (r.hp.getD b .dead)) ids with
        | none => rw [hv, hs] at hq; cases hq
        | some hp2 =>
          rw [hv, hs] at hq
          simp only [Option.bind_some] at hq
          split at hq
          · rename_i htk
            cases hq
            have hlen := hargs.len
            have hi0 : Inv P w ν hp.length ν hp ([] ++ []) w := ⟨hrep, Nat.le_refl _, fun _ _ => rfl, rfl, rfl, rfl, Nat.le_refl _, fun _ _ _ => rfl, fun id N hid _ hN => by rw [hrep.dom id hid] at hN; cases hN⟩
            refine calls_of_wp hfn hc (hr w ν ν [] _ w _ hi0 ?_ fun ν' a' w' k1 k2 k3 => ?_)
            · refine ⟨by unfold frame0; rw [frArgs_n]; simp [Fr.empty, ← hlen]; omega, fun t v hv => ?_⟩
              unfold frame0 at hv
              rcases frArgs_get _ _ _ _ _ hv with ⟨_, h0⟩ | h0
              · rw [Nat.sub_zero] at h0
                obtain ⟨u', h1, h2⟩ := hargs.get t v h0
                refine ⟨u', ?_, h2⟩
                have ht := (List.getElem?_eq_some_iff.1 h1).1
                rw [Array.getElem?_append_left (by simpa using ht)]
                simpa using h1
              · rw [Fr.empty_get] at h0
                cases h0
            · rw [List.append_nil] at k1
              obtain ⟨vs', h1, h2⟩ := hvs ν' a'.tmps w' k1.rep k2
              obtain ⟨hk, hi⟩ := Inv.weaken hnd htk hs k1
              have hfin : a'.defers = [] ∧ ∃ v, (results fn a'.tmps).run P w' = .ok v w' ∧ ∃ v' ν2, Ending.returned v = .returned v' ∧ VR ν2 v2 v' ∧ Inv P w ν hp.length ν2 hp2 (r.wr.filter (· < hp.length)) w' :=
                ⟨k3, tie vs', results_run h1, tie vs', _, rfl, ren_ok hk hv (tie_VR h2 hlc), hi⟩
              rcases hex with e | e
              · rw [e]; exact hfin
              · rw [e]; exact hfin
          · cases hq
    split
    · exact Sat.stop
    · exact Sat.stop
    · rename_i he hp_
      refine key ?_
      cases hx : r.ex with
      | normal => exact .inl rfl
      | ret => exact .inr rfl
      | exit j => exact absurd hx (he j)
      | pan ch => exact absurd hx (hp_ ch)
end
end Go.Proofs.Ythjlpklloioknaa.Ex
end
