/- A deterministic interpreter over an abstract heap of named blocks: what a function computes, whatever the tape draws. It is run by the kernel; where a test or a call is not to be seen through, an oracle tells its outcome, and what was told is owed. -/
import Derived.Calls
import Derived.Orders
import Derived.Laws.Sem
import Derived.Laws.Cells
import Derived.Laws.Entries
import Derived.Laws.BytesString
import Derived.Laws.Append
import Derived.Laws.World
namespace Go.Proofs.Ytgbncncmoiadaaa.Ex
open Go
set_option linter.unusedVariables false
/-- A block: gone; one of the run's own (its type, the cells known of it, from its beginning); one that came in and is only read. -/
inductive Blk where
  | dead
  | own (e : TypeId) (cs : List Value)
  | ro (e : TypeId) (cs : List Value)
  deriving Inhabited
/-- What is known of the temporaries: a tree, so that few steps lead to each. -/
inductive Tr where
  | nil
  | nd (l : Tr) (v : Option Value) (r : Tr)
def Tr.get : Tr → Nat → Option Value
  | .nil, _ => none
  | .nd l v r, i => bif Nat.beq i 0 then v else bif Nat.beq (Nat.mod i 2) 1 then l.get (Nat.div i 2) else r.get (Nat.pred (Nat.div i 2))
def Tr.set : Tr → Nat → Option Value → Tr
  | .nil, _, _ => .nil
  | .nd l v r, i, u => bif Nat.beq i 0 then .nd l u r else bif Nat.beq (Nat.mod i 2) 1 then .nd (l.set (Nat.div i 2) u) v r else .nd l v (r.set (Nat.pred (Nat.div i 2)) u)
def Tr.full : Nat → Tr
  | 0 => .nil
  | n + 1 => .nd (Tr.full n) none (Tr.full n)
structure Fr where
  n : Nat
  t : Tr
def Fr.get (fr : Fr) (i : Nat) : Option Value := bif Nat.blt i fr.n then fr.t.get i else none
def Fr.set (fr : Fr) (i : Nat) (v : Option Value) : Fr := ⟨fr.n, fr.t.set i v⟩
def Fr.empty (n : Nat) : Fr := ⟨n, Tr.full (Nat.log2 n + 1)⟩
abbrev Hp := List Blk
/-- What an operation leaves: its value, the heap, the blocks that it wrote. -/
structure Res where
  v : Value
  hp : Hp
  wr : List Nat
inductive Xt where
  | normal
  | exit (id : Nat)
  | ret
structure Out where
  ex : Xt
  fr : Fr
  hp : Hp
  wr : List Nat
/-- No address in it. -/
def flat1 : Value → Bool
  | .bool _ | .int _ _ | .string _ | .nilFunc | .nilIface => true
  | .pointer none | .slice none 0 0 | .map none => true
  | .func _ f c => f.size == 0 && c.size == 0
  | _ => false
def flatC : Value → Bool
  | .agg cs => cs.toList.all flat1
  | v => flat1 v
def flat : Value → Bool
  | .tuple cs => cs.toList.all flatC
  | v => flatC v
/-- What stands for what: the real block, where the named one begins in it, how many cells there are, how many an element has. -/
structure Nm where
  g : Nat
  o : Nat
  S : Nat
  u : Nat
def Nm.at (N : Nm) (i : Nat) : Addr := ⟨N.g, N.o + i, none⟩
abbrev Nu := Nat → Option Nm
inductive L2 {α β : Type} (R : α → β → Prop) : List α → List β → Prop
  | nil : L2 R [] []
  | cons {a b l m} : R a b → L2 R l m → L2 R (a :: l) (b :: m)
/-- A cell's value with abstract names, and the real one. -/
def VR0 (ν : Nu) (v v' : Value) : Prop :=
  match v with
  | .pointer (some a) => ∃ N, ν a.block = some N ∧ a.spot = none ∧ v' = .pointer (some (N.at a.off))
  | .slice (some a) len cap => ∃ a' cap', v' = .slice (some a') len cap' ∧ cap ≤ cap' ∧ len ≤ cap' ∧ (0 < cap' → ∃ N, ν a.block = some N ∧ a.spot = none ∧ a' = N.at a.off ∧ a.off + cap' * N.u = N.S)
  | .bool _ | .int _ _ | .string _ | .nilFunc | .nilIface | .pointer none | .slice none 0 0 | .map none => v' = v
  | _ => False
def VR1 (ν : Nu) (v v' : Value) : Prop :=
  match v with
  | .func fn f c => ∃ f' c', v' = .func fn f' c' ∧ L2 (VR0 ν) f.toList f'.toList ∧ L2 (VR0 ν) c.toList c'.toList
  | v => VR0 ν v v'
def VRC (ν : Nu) (v v' : Value) : Prop :=
  match v with
  | .agg cs => ∃ cs', v' = .agg cs' ∧ L2 (VR1 ν) cs.toList cs'.toList
  | v => VR1 ν v v'
def VR (ν : Nu) (v v' : Value) : Prop :=
  match v with
  | .tuple cs => ∃ cs', v' = .tuple cs' ∧ L2 (VRC ν) cs.toList cs'.toList
  | v => VRC ν v v'
/-- Has a type no addresses? -/
def flatT (P : Program) : Nat → TypeId → Bool
  | 0, _ => false
  | n + 1, t => match P.underlying t with
    | some .bool | some (.int _) | some .string => true
    | some (.struct fs) => fs.toList.all fun f => flatT P n f.type
    | some (.array _ e) => flatT P n e
    | _ => false
def sz (P : Program) (t : TypeId) : Option Nat := (P.info? t).map (·.size)
def CR (P : Program) (ν : Nu) (e : TypeId) (v v' : Value) : Prop := VR1 ν v v' ∧ (flatT P 6 e = true → flat1 v = true)
def RepBlk (P : Program) (ν : Nu) (w : World) (id : Nat) : Blk → Prop
  | .dead => True
  | .own e cs => ∃ g cur lo hi, ν id = some ⟨g, 0, cur.size, (sz P e).getD 0⟩ ∧ w.heap[g]? = some (.cells cur e (lo, hi)) ∧ (∀ o, o < cur.size → ¬ (lo ≤ o ∧ o < hi)) ∧ cs.length ≤ cur.size ∧ L2 (CR P ν e) cs (cur.toList.take cs.length)
  | .ro e cs => ∃ N, ν id = some N ∧ N.u = (sz P e).getD 0 ∧ N.g < w.heap.size ∧ ∃ cs', L2 (CR P ν e) cs cs' ∧ ∀ i v, cs'[i]? = some v → w.cell? (N.at i) = some v
def Blk.live : Blk → Bool
  | .dead => false
  | _ => true
def Blk.isOwn : Blk → Bool
  | .own _ _ => true
  | _ => false
structure Rep (P : Program) (ν : Nu) (hp : Hp) (w : World) : Prop where
  dom : ∀ id, hp.length ≤ id → ν id = none
  blk : ∀ id, RepBlk P ν w id (hp.getD id .dead)
  sep : ∀ i j N K, i ≠ j → (hp.getD i .dead).isOwn = true → (hp.getD j .dead).live = true → ν i = some N → ν j = some K → N.g ≠ K.g
def FrRel (ν : Nu) (fr : Fr) (tmps : Array Value) : Prop := fr.n = tmps.size ∧ ∀ (t : Nat) v, fr.get t = some v → ∃ v', tmps[t]? = some v' ∧ VR ν v v'
/-- Where a run stands, seen from where its function began (the world w0, the first m blocks). -/
structure Inv (P : Program) (w0 : World) (ν0 : Nu) (m : Nat) (ν : Nu) (hp : Hp) (wr : List Nat) (w : World) : Prop where
  rep : Rep P ν hp w
  len : m ≤ hp.length
  same : ∀ id, id < m → ν id = ν0 id
  os : w.os = w0.os
  tape : w.tape = w0.tape
  output : w.output = w0.output
  size : w0.heap.size ≤ w.heap.size
  frame : ∀ g, g < w0.heap.size → (∀ id N, id < m → id ∈ wr → ν0 id = some N → N.g ≠ g) → w.heap[g]? = w0.heap[g]?
  fresh : ∀ id N, m ≤ id → (hp.getD id .dead).live = true → ν id = some N → w0.heap.size ≤ N.g ∨ ∃ j K, j < m ∧ j ∈ wr ∧ ν0 j = some K ∧ K.g = N.g
def Xt.of : Xt → Exit
  | .normal => .normal
  | .exit id => .exit id
  | .ret => .ret
/-- Whatever stands for the frame and the heap: the code ends as told. -/
def CodeSpec (P : Program) (m : Nat) (c : Code) (fr : Fr) (hp : Hp) (o : Out) : Prop :=
  ∀ w0 ν0 ν wr (a : Act) w (Q : Exit → Act → World → Prop), Inv P w0 ν0 m ν hp wr w → FrRel ν fr a.tmps →
    (∀ ν' (a' : Act) w', Inv P w0 ν0 m ν' o.hp (o.wr ++ wr) w' → FrRel ν' o.fr a'.tmps → a'.defers = a.defers → Q o.ex.of a' w') → c.wp P Q a w
/-- Whatever stands for the arguments and the blocks that they lead to: the call returns as told. -/
def CallSpec (P : Program) (f : FuncId) (args : List Value) (hp : Hp) (r : Res) : Prop :=
  ∀ ν w args', L2 (VR ν) args args' → Rep P ν hp w → Calls P f args'.toArray w fun e w' => ∃ v' ν', e = .returned v' ∧ VR ν' r.v v' ∧ Inv P w ν hp.length ν' r.hp r.wr w'
inductive Itm where
  | dec (b : Bool)
  | must
  | val (v : Value)
  | call (r : Res)
  | loop (keep : List Nat) (r : Out)
/-- The oracle: how many points to pass, then what to take. -/
abbrev Orcs := List (Nat × Itm)
/-- An answer: the value, what is left of the oracle, whether all checks held, what is owed. -/
structure Ans (α : Type) where
  a : α
  orc : Orcs
  ok : Bool
  owe : List Prop
abbrev M (α : Type) := Orcs → Option (Ans α)
def M.bind {α β : Type} (x : M α) (f : α → M β) : M β := fun o => match x o with
  | none => none
  | some ⟨a, o, k, w⟩ => match f a o with
    | none => none
    | some ⟨b, o, k', w'⟩ => some ⟨b, o, k && k', w ++ w'⟩
def M.map {α β : Type} (f : α → β) (x : M α) : M β := fun o => match x o with | none => none | some ⟨a, o, k, w⟩ => some ⟨f a, o, k, w⟩
def ret {α : Type} (a : α) : M α := fun o => some ⟨a, o, true, []⟩
def stop {α : Type} : M α := fun _ => none
def lift {α : Type} : Option α → M α
  | some a => ret a
  | none => stop
/-- A check: it must hold, or is owed. -/
def chk (b : Bool) : M Unit := fun o =>
  match o with
  | [] => some ⟨(), [], b, []⟩
  | (0, .must) :: r => some ⟨(), r, true, [b = true]⟩
  | (0, _) :: _ => none
  | (k + 1, i) :: r => some ⟨(), (k, i) :: r, b, []⟩
def ask (b : Bool) : M Bool := fun o =>
  match o with
  | [] => some ⟨b, [], true, []⟩
  | (0, .dec d) :: r => some ⟨d, r, true, [b = d]⟩
  | (0, _) :: _ => none
  | (k + 1, i) :: r => some ⟨b, (k, i) :: r, true, []⟩
def val (fr : Fr) : Operand → Option Value
  | .tmp t => fr.get t
  | .const v => if flat v = true then some v else none
  | .func f => some (.func (.func f) #[] #[])
  | .global _ => none
def vals (fr : Fr) : List Operand → Option (List Value)
  | [] => some []
  | x :: xs => (val fr x).bind fun v => (vals fr xs).bind fun vs => some (v :: vs)
def cellsAt (hp : Hp) (b : Nat) : Option (List Value) :=
  match hp.getD b .dead with
  | .own _ cs => some cs
  | .ro _ cs => some cs
  | .dead => none
def zeroT (P : Program) (t : TypeId) : Option Value := (P.info? t).bind (·.zero)
def aggT (P : Program) (t : TypeId) : Option Bool := (P.underlying t).map fun | .struct _ | .array _ _ => true | _ => false
def unit (P : Program) (hp : Hp) (b : Nat) : Option Nat :=
  match hp.getD b .dead with
  | .own e _ => sz P e
  | .ro e _ => sz P e
  | .dead => none
def isInt (k : IntKind) : Value → Bool
  | .int j _ => j == k
  | _ => false
def intOf : Value → Int
  | .int _ n => n
  | _ => 0
def isBool : Value → Bool
  | .bool _ => true
  | _ => false
def boolOf : Value → Bool
  | .bool b => b
  | _ => false
def isStr : Value → Bool
  | .string _ => true
  | _ => false
def strOf : Value → ByteArray
  | .string s => s
  | _ => .empty
/-- A value may be told in another form. -/
def see (v : Value) : M Value := fun o =>
  match o with
  | [] => some ⟨v, [], true, []⟩
  | (0, .val u) :: r => some ⟨u, r, true, [v = u]⟩
  | (0, _) :: _ => none
  | (k + 1, i) :: r => some ⟨v, (k, i) :: r, true, []⟩
/-- A value that was read, in the form of its type. -/
def asT (P : Program) (t : TypeId) (v : Value) : M Value :=
  match P.underlying t with
  | some (.int k) => (chk (isInt k v)).bind fun _ => ret (.int k (intOf v))
  | some .bool => (chk (isBool v)).bind fun _ => ret (.bool (boolOf v))
  | some .string => (chk (isStr v)).bind fun _ => ret (.string (strOf v))
  | _ => ret v
def put (cs : List Value) (o : Nat) : List Value → List Value
  | [] => cs
  | v :: vs => put (cs.set o v) (o + 1) vs
def loadA (P : Program) (hp : Hp) (t : TypeId) : Value → M Value
  | .pointer (some ⟨b, o, none⟩) => (lift (cellsAt hp b)).bind fun cs => (lift (aggT P t)).bind fun g =>
      if g = true then (lift (sz P t)).bind fun n => (chk (decide (o + n ≤ cs.length))).bind fun _ => ret (.agg ((cs.drop o).take n).toArray)
      else (chk (decide (o < cs.length))).bind fun _ => asT P t (cs.getD o undef)
  | _ => stop
def wrN (P : Program) (hp : Hp) (b o : Nat) (fl : Bool) (vs : List Value) : M Hp :=
  match hp.getD b .dead with
  | .own e cs => (chk (decide (o + vs.length ≤ cs.length) && (!flatT P 6 e || fl))).bind fun _ => ret (hp.set b (.own e (put cs o vs)))
  | _ => stop
def storeA (P : Program) (hp : Hp) (t : TypeId) (a v : Value) : M Res :=
  match a with
  | .pointer (some ⟨b, o, none⟩) => (lift (sz P t)).bind fun n => (chk (v.cells.size == n)).bind fun _ => (wrN P hp b o (v.cells.toList.all flat1) v.cells.toList).map fun hp => ⟨undef, hp, [b]⟩
  | _ => stop
def newA (P : Program) (hp : Hp) (e : TypeId) (cs : List Value) : M Res := (chk (!flatT P 6 e || cs.all flat1)).bind fun _ => ret ⟨.pointer (some ⟨hp.length, 0, none⟩), hp ++ [.own e cs], []⟩
def partA (P : Program) (t : TypeId) (cs : Array Value) (off : Nat) : M Value :=
  (lift (aggT P t)).bind fun g => if g = true then (lift (sz P t)).bind fun n => (chk (decide (off + n ≤ cs.size))).bind fun _ => ret (.agg (cs.extract off (off + n)))
    else (chk (decide (off < cs.size))).bind fun _ => asT P t (cs.toList.getD off undef)
def pureRun (P : Program) {α : Type} : Sem α → Option α
  | .pure a => some a
  | .program k => pureRun P (k P)
  | .mark _ k => pureRun P k
  | _ => none
def at_ (b o : Nat) : Value := .pointer (some ⟨b, o, none⟩)
def fieldA (P : Program) (s : TypeId) (x : Value) (f : Nat) : Option Value :=
  match x, P.underlying s with
  | .pointer (some ⟨b, o, none⟩), some (.struct fs) => (fs[f]?).bind fun g => (sz P g.type).bind fun n => if n = 0 then none else some (at_ b (o + g.offset))
  | _, _ => none
def inside (i : Int) (n : Nat) : Bool := decide (0 ≤ i) && decide (i < (n : Int))
def upto (i : Int) (n : Nat) : Bool := decide (0 ≤ i) && decide (i ≤ (n : Int))
def indexA (P : Program) (t : TypeId) (x i : Value) : M Value :=
  match P.underlying t, x, i with
  | some (.array len e), .pointer (some ⟨b, o, none⟩), .int _ i => (lift (sz P e)).bind fun n => (chk (inside i len)).bind fun _ => ret (at_ b (o + i.toNat * n))
  | some (.slice e), .slice (some ⟨b, o, none⟩) len _, .int _ i => (lift (sz P e)).bind fun n => (chk (inside i len)).bind fun _ => ret (at_ b (o + i.toNat * n))
  | _, _, _ => stop
def boundA (y : Nat) (d : Nat) : Option Value → M Nat
  | none => ret d
  | some (.int _ i) => (chk (upto i y)).bind fun _ => ret i.toNat
  | _ => stop
def cutA (P : Program) (hp : Hp) (t : TypeId) (x : Value) (lo hi : Option Value) : M Value :=
  match P.underlying t, x with
  | some .string, .string s => (boundA s.size s.size hi).bind fun h => (boundA h 0 lo).bind fun l => ret (.string (s.extract l h))
  | some (.slice e), .slice (some ⟨b, o, none⟩) len cap => (boundA cap len hi).bind fun h => (boundA h 0 lo).bind fun l => (lift (sz P e)).bind fun n => (lift (unit P hp b)).bind fun u =>
      (chk (u == n)).bind fun _ => ret (.slice (some ⟨b, o + l * n, none⟩) (h - l) (cap - l))
  | some (.slice e), .slice none 0 0 => (boundA 0 0 hi).bind fun h => (boundA h 0 lo).bind fun l => (lift (sz P e)).bind fun _ => ret (.slice none 0 0)
  | _, _ => stop
def fillA (place : Nat → Option (Nat × Nat)) (cells : List Value) : List (Nat × Value) → M (List Value)
  | [] => ret cells
  | (i, v) :: rest => (lift (place i)).bind fun p => (chk (v.cells.size == p.2 && decide (p.1 + p.2 ≤ cells.length))).bind fun _ => fillA place (put cells p.1 v.cells.toList) rest
def buildA (P : Program) (t : TypeId) (parts : List (Nat × Value)) : M Value :=
  (lift (zeroT P t)).bind fun z => (chk (z.cells.toList.all flat1)).bind fun _ =>
  match P.underlying t with
  | some (.struct fs) => (chk (fs.toList.all fun f => (sz P f.type).isSome)).bind fun _ => (fillA (fun i => (fs[i]?).map fun f => (f.offset, (sz P f.type).getD 0)) z.cells.toList parts).map fun cs => .agg cs.toArray
  | some (.array _ e) => (lift (sz P e)).bind fun n => (fillA (fun i => some (i * n, n)) z.cells.toList parts).map fun cs => .agg cs.toArray
  | _ => stop
def zeros (z : List Value) : Nat → List Value
  | 0 => []
  | n + 1 => z ++ zeros z n
def most : Nat := 140737488351232
def buildSliceA (P : Program) (hp : Hp) (t : TypeId) (len : Nat) (parts : List (Nat × Value)) : M Res :=
  match P.underlying t with
  | some (.slice e) => (lift (sz P e)).bind fun n => (lift (zeroT P e)).bind fun z => (chk (decide (len * n ≤ 16777216) && z.cells.size == n && decide (0 < n) && z.cells.toList.all flat1)).bind fun _ =>
      (fillA (fun i => some (i * n, n)) (zeros z.cells.toList len) parts).bind fun cs => (chk (!flatT P 6 e || cs.all flat1)).bind fun _ => ret ⟨.slice (some ⟨hp.length, 0, none⟩) len len, hp ++ [.own e cs], []⟩
  | _ => stop
def makeSliceA (P : Program) (hp : Hp) (t : TypeId) (l c : Value) : M Res :=
  match P.underlying t, l, c with
  | some (.slice e), .int _ l, .int _ c => (lift (P.info? e)).bind fun i => (lift i.zero).bind fun z => (chk (decide (0 ≤ l) && decide (l ≤ c) && decide (c * i.bytes ≤ most) && decide (c ≤ most) && z.cells.size == i.size && decide (0 < i.size) && z.cells.toList.all flat1)).bind fun _ =>
      ret ⟨.slice (some ⟨hp.length, 0, none⟩) l.toNat c.toNat, hp ++ [.own e (zeros z.cells.toList c.toNat)], []⟩
  | _, _, _ => stop
def bytesOf (s : ByteArray) : List Value := s.data.toList.map fun b => .int .u8 b.toNat
/-- How many elements a slice or a string gives, their cells, and whether these are known to be without addresses. -/
def newsA (P : Program) (hp : Hp) (n : Nat) : Value → M (Nat × List Value × Bool)
  | .slice none 0 0 => ret (0, [], true)
  | .slice (some ⟨b, o, none⟩) len _ => match hp.getD b .dead with
    | .own e cs => (chk (decide (o + len * n ≤ cs.length))).bind fun _ => ret (len, (cs.drop o).take (len * n), flatT P 6 e)
    | .ro e cs => (chk (decide (o + len * n ≤ cs.length))).bind fun _ => ret (len, (cs.drop o).take (len * n), flatT P 6 e)
    | .dead => stop
  | .string s => (chk (n == 1)).bind fun _ => ret (s.size, bytesOf s, true)
  | _ => stop
def appendA (P : Program) (hp : Hp) (t : TypeId) (s x : Value) : M Res :=
  match P.underlying t with
  | some (.slice e) => (lift (P.info? e)).bind fun i => (lift i.zero).bind fun z => (newsA P hp i.size x).bind fun news => (chk (z.cells.size == i.size && decide (0 < i.size) && decide (0 < i.bytes) && (!flatT P 6 e || news.2.2))).bind fun _ =>
      match s with
      | .slice none 0 0 => (chk (decide (news.1 * i.bytes ≤ most) && decide (news.1 ≤ most))).bind fun _ => (ask (decide (news.1 = 0))).bind fun b =>
          if b = true then ret ⟨.slice none 0 0, hp, []⟩ else ret ⟨.slice (some ⟨hp.length, 0, none⟩) news.1 news.1, hp ++ [.own e news.2.1], []⟩
      | .slice (some ⟨b, 0, none⟩) len cap =>
        match hp.getD b .dead with
        | .own e' cs => (chk (e' == e && decide ((len + news.1) * i.bytes ≤ most) && decide (len + news.1 ≤ most) && decide (len * i.size ≤ cs.length))).bind fun _ => (ask (decide (len + news.1 ≤ cap))).bind fun b1 =>
            if b1 = true then (chk (decide (cap * i.size ≤ cs.length))).bind fun _ => ret ⟨.slice (some ⟨b, 0, none⟩) (len + news.1) cap, hp.set b (.own e (put cs (len * i.size) news.2.1)), [b]⟩
            else (chk (decide (cs.length = len * i.size))).bind fun _ => ret ⟨.slice (some ⟨hp.length, 0, none⟩) (len + news.1) (len + news.1), hp.set b .dead ++ [.own e (cs ++ news.2.1)], [b]⟩
        | _ => stop
      | _ => stop
  | _ => stop
def copyA (P : Program) (hp : Hp) (t : TypeId) (d s : Value) : M Res :=
  match P.underlying t, d with
  | some (.slice e), .slice (some ⟨b, o, none⟩) len _ => (lift (sz P e)).bind fun n => (newsA P hp n s).bind fun news =>
      (wrN P hp b o news.2.2 (news.2.1.take (Nat.min news.1 len * n))).map fun hp => ⟨.int .i64 (Nat.min news.1 len : Nat), hp, [b]⟩
  | _, _ => stop
def unbyte (v : Value) : UInt8 := UInt8.ofNat (intOf v).toNat
def isNilV (P : Program) (t : TypeId) (v : Value) : Option Bool :=
  match P.underlying t, v with
  | some (.pointer _), .pointer none => some true
  | some (.pointer _), .pointer (some _) => some false
  | some (.slice _), .slice none 0 0 => some true
  | some (.slice _), .slice (some _) _ _ => some false
  | some (.func _ _ _), .nilFunc => some true
  | some (.func _ _ _), .func _ _ _ => some false
  | _, _ => none
def convA (P : Program) (hp : Hp) (src dst : TypeId) (x : Value) : M Res :=
  match P.underlying src, P.underlying dst, x with
  | some (.int _), some (.int k), .int _ n => ret ⟨.int k (k.wrap n), hp, []⟩
  | some .string, some .string, .string s => ret ⟨.string s, hp, []⟩
  | some (.slice e), some .string, .slice a l c => match P.underlying e with
      | some (.int .u8) => (newsA P hp 1 (.slice a l c)).bind fun news => (chk (news.2.1.all (isInt .u8))).bind fun _ => ret ⟨.string ⟨(news.2.1.map unbyte).toArray⟩, hp, []⟩
      | _ => stop
  | some .string, some (.slice e), .string s => match P.underlying e with
      | some (.int .u8) => (chk (decide (s.size ≤ most) && sz P e == some 1)).bind fun _ => ret ⟨.slice (some ⟨hp.length, 0, none⟩) s.size s.size, hp ++ [.own e (bytesOf s)], []⟩
      | _ => stop
  | _, _, _ => stop
def envOf (fr : Fr) (x : Operand) : Value := (val fr x).getD undef
/-- What needs no memory at all: the model's own word on values without addresses. -/
def plainA (P : Program) (fr : Fr) (o : Oper) : Option Value :=
  match o.op with
  | .select _ _ => none
  | _ => (vals fr o.op.operands.toList).bind fun vs => if vs.all flat = true then (pureRun P (execOp (envOf fr) o)).bind fun | .value v => if flat v = true then some v else none | _ => none else none
def partV (P : Program) (t : TypeId) (cs : Array Value) (off : Nat) : Option Value :=
  (aggT P t).bind fun g => if g = true then (sz P t).bind fun n => if off + n ≤ cs.size then some (.agg (cs.extract off (off + n))) else none else cs.toList[off]?
def eqAll {α : Type} (f : α → Option Bool) : List α → Option Bool
  | [] => some true
  | x :: xs => (f x).bind fun b => (eqAll f xs).map fun c => b && c
/-- Are two values the same, part for part? -/
def eqA (P : Program) : Nat → TypeId → Value → Value → Option Bool
  | 0, _, _, _ => none
  | d + 1, t, x, y => match P.underlying t, x, y with
    | some .bool, .bool a, .bool b => some (a == b)
    | some (.int _), .int k a, .int k' b => if k = k' then some (a == b) else none
    | some .string, .string a, .string b => some (a == b)
    | some (.struct fs), .agg xs, .agg ys => if P.stoodInHeld t = true then none else
        eqAll (fun f => if f.name = "_" then some true else (partV P f.type xs f.offset).bind fun x => (partV P f.type ys f.offset).bind fun y => eqA P d f.type x y) fs.toList
    | some (.array len e), .agg xs, .agg ys => (sz P e).bind fun n => eqAll (fun i => (partV P e xs (i * n)).bind fun x => (partV P e ys (i * n)).bind fun y => eqA P d e x y) (List.range len)
    | _, _, _ => none
def eqAgg (P : Program) (t : TypeId) (xs ys : Array Value) : M Bool :=
  (chk (xs.toList.all flat1 && ys.toList.all flat1 && !P.eqGuardType P.depth t)).bind fun _ => lift (eqA P 12 t (.agg xs) (.agg ys))
def binA (P : Program) (fr : Fr) (o : Oper) (op : BinOp) (t : TypeId) (v w : Value) : M Value :=
  match op, v, w with
  | .shl, .int k x, .int _ y => (chk (decide (0 ≤ y))).bind fun _ => ret (.int k (k.wrap (x * 2 ^ (min y.toNat k.bits))))
  | .shr, .int k x, .int _ y => (chk (decide (0 ≤ y))).bind fun _ => ret (.int k (x.fdiv (2 ^ (min y.toNat k.bits))))
  | .quo, .int k x, .int j y => (chk (k == j && decide (y ≠ 0))).bind fun _ => ret (.int k (k.wrap (x.tdiv y)))
  | .rem, .int k x, .int j y => (chk (k == j && decide (y ≠ 0))).bind fun _ => ret (.int k (x.tmod y))
  | .add, .string a, .string b => (chk (decide (a.size + b.size ≤ 9223372036854775807))).bind fun _ => ret (.string (a ++ b))
  | .eql, .agg xs, .agg ys => (eqAgg P t xs ys).map fun b => .bool b
  | .neq, .agg xs, .agg ys => (eqAgg P t xs ys).map fun b => .bool !b
  | .eql, v, w => match plainA P fr o with
    | some r => ret r
    | none => if isNilV P t w = some true then (lift (isNilV P t v)).bind fun b => ret (.bool b) else stop
  | .neq, v, w => match plainA P fr o with
    | some r => ret r
    | none => if isNilV P t w = some true then (lift (isNilV P t v)).bind fun b => ret (.bool !b) else stop
  | _, _, _ => lift (plainA P fr o)
/-- Neither a struct, a list of results, nor a function. -/
def lvl0 : Value → Bool
  | .agg _ | .tuple _ | .func _ _ _ => false
  | _ => true
def lvlC : Value → Bool
  | .tuple _ => false
  | _ => true
abbrev CallF := FuncId → List Value → Hp → M Res
def parts (fr : Fr) : List (Nat × Operand) → Option (List (Nat × Value))
  | [] => some []
  | (i, x) :: r => (val fr x).bind fun v => (parts fr r).bind fun vs => some ((i, v) :: vs)
def optV (fr : Fr) : Option Operand → Option (Option Value)
  | none => some none
  | some x => (val fr x).map some
def bodied (P : Program) (g : FuncId) : Bool := match P.funcs[g]? with | some fn => fn.body.isSome | none => false
/-- A function without a body, of values without addresses: it gives that value, whatever the world. -/
def ExtSpec (P : Program) (g : FuncId) (args : List Value) (u : Value) : Prop := ∀ w : World, (callFunc g args.toArray).run P w = .ok (.value u) w
def extA (P : Program) (fr : Fr) (o : Oper) (g : FuncId) (args : List Value) : M Value := fun s =>
  match s with
  | (0, .call r) :: s => if args.all flat && flat r.v then some ⟨r.v, s, true, [ExtSpec P g args r.v]⟩ else none
  | s => (lift (plainA P fr o)) s
/-- One operation. -/
def opA (P : Program) (call : CallF) (fr : Fr) (hp : Hp) (o : Oper) : M Res :=
  let keep (v : Value) : Res := ⟨v, hp, []⟩
  match o.op with
  | .move x | .assign x => (lift (val fr x)).map keep
  | .pick c a b => (lift (val fr c)).bind fun c => match c with
      | .bool c => (ask c).bind fun c => if c = true then (lift (val fr a)).map keep else (lift (val fr b)).map keep
      | _ => stop
  | .alloc e => (lift (zeroT P e)).bind fun z => (chk (z.cells.toList.all flat1)).bind fun _ => newA P hp e z.cells.toList
  | .box e x => (lift (val fr x)).bind fun v => (chk (lvlC v)).bind fun _ => newA P hp e v.cells.toList
  | .load t a => (lift (val fr a)).bind fun a => (loadA P hp t a).map keep
  | .store t a x => (lift (val fr a)).bind fun a => (lift (val fr x)).bind fun v => (chk (lvlC v)).bind fun _ => storeA P hp t a v
  | .nilCheck x => (lift (val fr x)).bind fun v => match v with | .pointer (some a) => ret (keep (.pointer (some a))) | _ => stop
  | .fieldAddr s x f => (lift (val fr x)).bind fun v => (lift (fieldA P s v f)).map keep
  | .indexAddr t x i => (lift (val fr x)).bind fun v => (lift (val fr i)).bind fun i => (indexA P t v i).map keep
  | .slice t x lo hi none => (lift (val fr x)).bind fun v => (lift (optV fr lo)).bind fun lo => (lift (optV fr hi)).bind fun hi => (cutA P hp t v lo hi).map keep
  | .field t x f => (lift (val fr x)).bind fun v => match v, P.underlying t with
      | .agg cs, some (.struct fs) => (lift (fs[f]?)).bind fun g => (partA P g.type cs g.offset).map keep
      | _, _ => stop
  | .index t x i => (lift (val fr x)).bind fun v => (lift (val fr i)).bind fun i => match P.underlying t, v, i with
      | some (.array len e), .agg cs, .int _ i => (lift (sz P e)).bind fun n => (chk (inside i len)).bind fun _ => (partA P e cs (i.toNat * n)).map keep
      | some .string, .string s, .int _ i => (chk (inside i s.size)).bind fun _ => ret (keep (.int .u8 ((s.data.toList.getD i.toNat 0).toNat : Nat)))
      | _, _, _ => stop
  | .extract x i => (lift (val fr x)).bind fun v => match v with | .tuple vs => (lift (vs[i]?)).map keep | _ => stop
  | .build t ps => (lift (parts fr ps.toList)).bind fun ps => (chk (ps.all fun p => lvlC p.2)).bind fun _ => (buildA P t ps).map keep
  | .buildSlice t n ps => (lift (parts fr ps.toList)).bind fun ps => (chk (ps.all fun p => lvlC p.2)).bind fun _ => buildSliceA P hp t n ps
  | .makeSlice t l c => (lift (val fr l)).bind fun l => (lift (val fr c)).bind fun c => makeSliceA P hp t l c
  | .makeFunc fn f c => (lift (vals fr f.toList)).bind fun f => (lift (vals fr c.toList)).bind fun c => (chk (f.all lvl0 && c.all lvl0)).bind fun _ => ret (keep (.func fn f.toArray c.toArray))
  | .convert src dst x => (lift (val fr x)).bind fun v => convA P hp src dst v
  | .binOp op t x y _ => (lift (val fr x)).bind fun v => (lift (val fr y)).bind fun w => (binA P fr o op t v w).map keep
  | .call { callee := .builtin .append, args := as, argTypes := ts } => (lift (vals fr as.toList)).bind fun vs => match vs, ts[0]?, ts[1]? with
      | [s, x], some t, some t2 => (match P.underlying t2 with | some (.slice _) | some .string => appendA P hp t s x | _ => stop)
      | _, _, _ => stop
  | .call { callee := .builtin .copy, args := as, argTypes := ts } => (lift (vals fr as.toList)).bind fun vs => match vs, ts[0]? with
      | [d, s], some t => copyA P hp t d s
      | _, _ => stop
  | .call { callee := .builtin .len, args := as, argTypes := ts } => (lift (vals fr as.toList)).bind fun vs => match vs, (ts[0]?).bind P.underlying with
      | [.slice _ n _], some (.slice _) => ret (keep (.int .i64 n))
      | [.string s], some .string => ret (keep (.int .i64 s.size))
      | [_], some (.array n _) => ret (keep (.int .i64 n))
      | _, _ => stop
  | .call { callee := .value f, args := as, argTypes := _ } => (lift (val fr f)).bind fun fv => (lift (vals fr as.toList)).bind fun vs => match fv with
      | .func (.func g) first captured => if bodied P g = true then call g (first.toList ++ vs ++ captured.toList) hp else (extA P fr o g (first.toList ++ vs ++ captured.toList)).map keep
      | _ => stop
  | _ => (lift (plainA P fr o)).map keep
/-- One operation, its value in the form that is told. -/
def opS (P : Program) (call : CallF) (fr : Fr) (hp : Hp) (o : Oper) : M Res := (opA P call fr hp o).bind fun r => (see r.v).map fun v => ⟨v, r.hp, r.wr⟩
def putT (fr : Fr) : Option Tmp → Value → Fr
  | some d, v => fr.set d (some v)
  | none, _ => fr
/-- Is an operation wanted? -/
def wantA (ops : Array Oper) (fr : Fr) (o : Oper) : M Bool :=
  match o.guard with
  | none => ret true
  | some (j, want) =>
    match (ops[j]?).bind (·.dst) with
    | none => ret false
    | some d => match fr.get d with
      | some (.bool b) => (ask b).bind fun b => ret (b == want)
      | some (.tuple _) => ret false
      | _ => stop
def idsV1 : Value → List Nat
  | .pointer (some a) | .slice (some a) _ _ => [a.block]
  | .map (some r) => [r]
  | _ => []
def idsVC : Value → List Nat
  | .agg cs => cs.toList.flatMap idsV1
  | .func _ f c => f.toList.flatMap idsV1 ++ c.toList.flatMap idsV1
  | v => idsV1 v
def idsV : Value → List Nat
  | .tuple cs => cs.toList.flatMap idsVC
  | v => idsVC v
def blkIds (P : Program) : Blk → List Nat
  | .own e cs => if flatT P 6 e = true then [] else cs.flatMap idsVC
  | .ro e cs => if flatT P 6 e = true then [] else cs.flatMap idsVC
  | .dead => []
/-- The blocks that are led to. -/
def reach (P : Program) (hp : Hp) : Nat → List Nat → List Nat → List Nat
  | 0, _, seen => seen
  | _ + 1, [], seen => seen
  | n + 1, b :: r, seen => if seen.contains b = true then reach P hp n r seen else reach P hp n (blkIds P (hp.getD b .dead) ++ r) (seen ++ [b])
def posIn : List Nat → Nat → Option Nat
  | [], _ => none
  | x :: xs, b => if x == b then some 0 else (posIn xs b).map (· + 1)
def mapL {α β : Type} (f : α → Option β) : List α → Option (List β)
  | [] => some []
  | x :: xs => (f x).bind fun y => (mapL f xs).bind fun ys => some (y :: ys)
def ren0 (f : Nat → Option Nat) : Value → Option Value
  | .pointer (some a) => (f a.block).map fun b => .pointer (some ⟨b, a.off, a.spot⟩)
  | .slice (some a) l c => (f a.block).map fun b => .slice (some ⟨b, a.off, a.spot⟩) l c
  | v => if flat1 v = true then some v else none
def ren1 (f : Nat → Option Nat) : Value → Option Value
  | .func fn xs cs => (mapL (ren0 f) xs.toList).bind fun xs => (mapL (ren0 f) cs.toList).map fun cs => .func fn xs.toArray cs.toArray
  | v => ren0 f v
def renC (f : Nat → Option Nat) : Value → Option Value
  | .agg cs => (mapL (ren1 f) cs.toList).map fun cs => .agg cs.toArray
  | v => ren1 f v
def ren (f : Nat → Option Nat) : Value → Option Value
  | .tuple cs => (mapL (renC f) cs.toList).map fun cs => .tuple cs.toArray
  | v => renC f v
def renB (P : Program) (f : Nat → Option Nat) : Blk → Option Blk
  | .dead => some .dead
  | .own e cs => if flatT P 6 e = true then some (.own e cs) else (mapL (ren1 f) cs).map fun cs => .own e cs
  | .ro e cs => if flatT P 6 e = true then some (.ro e cs) else (mapL (ren1 f) cs).map fun cs => .ro e cs
def deep : Nat := 4096
def argIds (P : Program) (hp : Hp) (args : List Value) : List Nat := reach P hp deep (args.flatMap idsV) []
def backTo (ids : List Nat) (base j : Nat) : Option Nat := if j < ids.length then ids[j]? else some (base + (j - ids.length))
def setAll (P : Program) (f : Nat → Option Nat) (ids : List Nat) (h2 : Hp) : List Nat → Hp → Option Hp
  | [], hp => some hp
  | j :: r, hp => (ids[j]?).bind fun b => (renB P f (h2.getD j .dead)).bind fun k => setAll P f ids h2 r (hp.set b k)
/-- A call: the callee is run over what its arguments lead to. -/
def callA (P : Program) (inl : CallF) (g : FuncId) (args : List Value) (hp : Hp) : M Res :=
  let ids := argIds P hp args
  (lift (mapL (ren (posIn ids)) args)).bind fun args' => (lift (mapL (fun b => renB P (posIn ids) (hp.getD b .dead)) ids)).bind fun sub =>
    (inl g args' sub).bind fun r => (chk (decide (ids.length ≤ r.hp.length) && r.wr.all fun j => (sub.getD j .dead).isOwn)).bind fun _ =>
      (lift (ren (backTo ids hp.length) r.v)).bind fun v =>
      (lift (setAll P (backTo ids hp.length) ids r.hp r.wr hp)).bind fun hp1 =>
      (lift (mapL (renB P (backTo ids hp.length)) (r.hp.drop ids.length))).bind fun news =>
        ret ⟨v, hp1 ++ news, (r.wr.filterMap fun j => ids[j]?)⟩
/-- A call whose result the oracle may tell. -/
def toldA (P : Program) (inl : CallF) : CallF := fun g args hp o =>
  match o with
  | (0, .call r) :: o => some ⟨r, o, true, [CallSpec P g args hp r]⟩
  | (0, _) :: _ => none
  | (k + 1, i) :: o => inl g args hp ((k, i) :: o)
  | [] => inl g args hp []
def idsO (fr : Fr) (x : Operand) : List Nat := match val fr x with | some v => idsV v | none => []
/-- What an operation may look at or change. -/
def footA (P : Program) (fr : Fr) (hp : Hp) (o : Oper) : List Nat :=
  match o.op with
  | .load _ a | .store _ a _ => idsO fr a
  | .slice _ x _ _ _ | .convert _ _ x => idsO fr x
  | .call { callee := .builtin _, args := as, .. } => as.toList.flatMap (idsO fr)
  | .call { callee := .value f, args := as, .. } => match val fr f, vals fr as.toList with
      | some (.func _ first captured), some vs => argIds P hp (first.toList ++ vs ++ captured.toList)
      | _, _ => []
  | _ => []
/-- What each operation looked at; what it changed, or made (from, to). -/
structure Step where
  rd : List Nat
  wr : List Nat
  lo : Nat
  hi : Nat
def hits (s : Step) (b : Nat) : Bool := s.wr.contains b || (s.lo ≤ b && b < s.hi)
def clash (s t : Step) : Bool := t.rd.any (hits s) || t.wr.any (hits s) || s.rd.any (hits t) || s.wr.any (hits t)
def opsA (P : Program) (call : CallF) (all : Array Oper) : List Oper → Fr → Hp → List Nat → List Step → M (Fr × Hp × List Nat × List Step)
  | [], fr, hp, wr, st => ret (fr, hp, wr, st.reverse)
  | o :: os, fr, hp, wr, st => (wantA all fr o).bind fun b =>
      if b = true then (opS P call fr hp o).bind fun r => opsA P call all os (putT fr o.dst r.v) r.hp (r.wr ++ wr) (⟨footA P fr hp o, r.wr, hp.length, r.hp.length⟩ :: st)
      else opsA P call all os (putT fr o.dst undef) hp wr (⟨[], [], hp.length, hp.length⟩ :: st)
/-- The edges lead back; the pairs that no edges order stand apart. -/
def calmS (ops : Array Oper) : Bool :=
  let b := Region.before ops
  (List.range ops.size).all fun j => ((ops.getD j default).after.toList.all fun e => !Region.binds .any e || decide (e.on < j)) && (List.range j).all fun i => (b.getD j 0).testBit i || Oper.apart ops (ops.getD i default) (ops.getD j default)
def calmC : Code → Bool
  | .region _ ops draw => !draw || calmS ops
  | .seq a b => calmC a && calmC b
  | .cond _ a b => calmC a && calmC b
  | .block _ a => calmC a
  | .loop a => calmC a
  | _ => true
def Calm (P : Program) : Prop := ∀ (f : FuncId) (fn : Func) (c : Code), P.funcs[f]? = some fn → fn.body = some c → calmC c = true
def idle (s : Step) : Bool := s.rd.isEmpty && s.wr.isEmpty && decide (s.hi ≤ s.lo)
def busy : Nat → List Step → List (Nat × Step)
  | _, [] => []
  | i, s :: r => if idle s = true then busy (i + 1) r else (i, s) :: busy (i + 1) r
/-- Do those that clash stand in an order? -/
def calm (ops : Array Oper) (st : List Step) : Bool :=
  let l := busy 0 st
  l.all fun q => l.all fun p => !decide (p.1 < q.1) || !clash p.2 q.2 || ((Region.before ops).getD q.1 0).testBit p.1
/-- A frame: what is known of it. -/
def frOf (n : Nat) : List (Nat × Value) → Fr
  | [] => .empty n
  | (t, v) :: r => (frOf n r).set t (some v)
def keepT (fr : Fr) : List Nat → List (Nat × Value)
  | [] => []
  | t :: r => match fr.get t with
    | some v => (t, v) :: keepT fr r
    | none => keepT fr r
def frIds : List (Nat × Value) → List Nat
  | [] => []
  | p :: r => idsV p.2 ++ frIds r
def renF (f : Nat → Option Nat) : List (Nat × Value) → Option (List (Nat × Value))
  | [] => some []
  | (t, v) :: r => (ren f v).bind fun v => (renF f r).map fun r => (t, v) :: r
/-- Only what is kept of the frame, and what that leads to. -/
def tidy (P : Program) (m : Nat) (keep : List Nat) (o : Out) : Option Out :=
  let l := keepT o.fr keep
  let ids := reach P o.hp deep (List.range m ++ frIds l) []
  (renF (posIn ids) l).bind fun l => (mapL (fun b => renB P (posIn ids) (o.hp.getD b .dead)) ids).bind fun hp =>
    if ids.take m = List.range m then some ⟨o.ex, frOf o.fr.n l, hp, o.wr.filter (· < m)⟩ else none
def iter (f : Fr → Hp → M Out) : Nat → Fr → Hp → List Nat → M Out
  | 0, _, _, _ => stop
  | n + 1, fr, hp, wr => (f fr hp).bind fun r => match r.ex with
    | .normal => iter f n r.fr r.hp (r.wr ++ wr)
    | e => ret ⟨e, r.fr, r.hp, r.wr ++ wr⟩
def run (P : Program) (call : CallF) (m n : Nat) : Code → Fr → Hp → M Out
  | .skip, fr, hp => ret ⟨.normal, fr, hp, []⟩
  | .label _, fr, hp => ret ⟨.normal, fr, hp, []⟩
  | .region _ ops draw, fr, hp => (opsA P call ops ops.toList fr hp [] []).bind fun r => (chk (!draw || calm ops r.2.2.2)).bind fun _ => ret ⟨.normal, r.1, r.2.1, r.2.2.1⟩
  | .seq a b, fr, hp => (run P call m n a fr hp).bind fun r => match r.ex with
    | .normal => (run P call m n b r.fr r.hp).map fun q => ⟨q.ex, q.fr, q.hp, q.wr ++ r.wr⟩
    | e => ret ⟨e, r.fr, r.hp, r.wr⟩
  | .cond c x y, fr, hp => fun o => match o with
    | (0, .loop keep r) :: o => match tidy P m keep ⟨.normal, fr, hp, []⟩ with
      | some t => some ⟨r, o, true, [CodeSpec P m (.cond c x y) t.fr t.hp r]⟩
      | none => none
    | o => ((lift (val fr c)).bind fun v => match v with
      | .bool b => (ask b).bind fun b => if b = true then run P call m n x fr hp else run P call m n y fr hp
      | _ => stop) o
  | .block id c, fr, hp => (run P call m n c fr hp).map fun r => match r.ex with
    | .exit j => if j = id then ⟨.normal, r.fr, r.hp, r.wr⟩ else ⟨.exit j, r.fr, r.hp, r.wr⟩
    | e => ⟨e, r.fr, r.hp, r.wr⟩
  | .loop c, fr, hp => fun o => match o with
    | (0, .loop keep r) :: o => match tidy P m keep ⟨.normal, fr, hp, []⟩ with
      | some t => some ⟨r, o, true, [CodeSpec P m (.loop c) t.fr t.hp r]⟩
      | none => none
    | (0, _) :: _ => none
    | (k + 1, i) :: o => iter (run P call m n c) n fr hp [] ((k, i) :: o)
    | [] => iter (run P call m n c) n fr hp [] []
  | .exit id, fr, hp => ret ⟨.exit id, fr, hp, []⟩
  | .ret, fr, hp => ret ⟨.ret, fr, hp, []⟩
  | _, _, _ => stop
def resA (P : Program) (fr : Fr) (hp : Hp) : List ResultVar → M (List Value)
  | [] => ret []
  | .tmp t :: r => (lift (fr.get t)).bind fun v => (resA P fr hp r).map fun vs => v :: vs
  | .cell a t :: r => (lift (fr.get a)).bind fun x => (loadA P hp t x).bind fun v => (resA P fr hp r).map fun vs => v :: vs
def tie : List Value → Value
  | [v] => v
  | vs => .tuple vs.toArray
/-- What a function hands back: its result, and what that and the first blocks lead to. -/
def outA (P : Program) (m : Nat) (v : Value) (hp : Hp) (wr : List Nat) : Option Res :=
  let ids := reach P hp deep (List.range m ++ idsV v) []
  (ren (posIn ids) v).bind fun v => (mapL (fun b => renB P (posIn ids) (hp.getD b .dead)) ids).bind fun hp =>
    if ids.take m = List.range m then some ⟨v, hp, wr.filter (· < m)⟩ else none
def frArgs (fr : Fr) : Nat → List Value → Fr
  | _, [] => fr
  | i, v :: vs => (frArgs fr (i + 1) vs).set i (some v)
def frame0 (fn : Func) (args : List Value) : Fr := frArgs (.empty fn.ntmps) 0 args
/-- A function's run, over the blocks that its arguments lead to (they come first). -/
def exec (P : Program) : Nat → CallF
  | 0 => fun _ _ _ => stop
  | n + 1 => fun f args hp =>
    (lift (P.funcs[f]?)).bind fun fn => (lift fn.body).bind fun c => (chk (decide (args.length ≤ fn.ntmps))).bind fun _ =>
      (run P (callA P (toldA P (exec P n))) hp.length n c (frame0 fn args) hp).bind fun r => match r.ex with
        | .exit _ => stop
        | _ => (resA P r.fr r.hp fn.results.toList).bind fun vs => (chk (vs.all lvlC)).bind fun _ => lift (outA P hp.length (tie vs) r.hp r.wr)
def go {α : Type} (x : M α) (o : Orcs) : Option (α × Bool × List Prop) := (x o).bind fun r => match r.orc with | [] => some (r.a, r.ok, r.owe) | _ => none
end Go.Proofs.Ytgbncncmoiadaaa.Ex
/- What the interpreter's steps mean: lists of values that stand for values, renaming, and a small logic for what is checked and owed. -/
namespace Go.Proofs.Ytgbncncmoiadaaa.Ex
open Go
set_option linter.unusedVariables false
set_option linter.unusedSimpArgs false
section
variable {α β γ : Type} {R S : α → β → Prop}
theorem L2.len {l : List α} {m : List β} (h : L2 R l m) : l.length = m.length := by
  induction h with
  | nil => rfl
  | cons _ _ ih => simp [ih]
theorem L2.mono {l : List α} {m : List β} (h : L2 R l m) (hr : ∀ a b, R a b → S a b) : L2 S l m := by
  induction h with
  | nil => exact .nil
  | cons h _ ih => exact .cons (hr _ _ h) ih
theorem L2.get {l : List α} {m : List β} (h : L2 R l m) : ∀ (i : Nat) a, l[i]? = some a → ∃ b, m[i]? = some b ∧ R a b := by
  induction h with
  | nil => intro i a h; simp at h
  | cons h _ ih =>
    intro i a ha
    cases i with
    | zero => simp at ha; subst ha; exact ⟨_, rfl, h⟩
    | succ i => simpa using ih i a (by simpa using ha)
theorem L2.get' {l : List α} {m : List β} (h : L2 R l m) : ∀ (i : Nat) b, m[i]? = some b → ∃ a, l[i]? = some a ∧ R a b := by
  induction h with
  | nil => intro i a h; simp at h
  | cons h _ ih =>
    intro i a ha
    cases i with
    | zero => simp at ha; subst ha; exact ⟨_, rfl, h⟩
    | succ i => simpa using ih i a (by simpa using ha)
theorem L2.of_get {l : List α} : ∀ {m : List β}, l.length = m.length → (∀ (i : Nat) a b, l[i]? = some a → m[i]? = some b → R a b) → L2 R l m := by
  induction l with
  | nil => intro m h _; cases m with
    | nil => exact .nil
    | cons _ _ => simp at h
  | cons x l ih => intro m h hr; cases m with
    | nil => simp at h
    | cons y m => exact .cons (hr 0 x y rfl rfl) (ih (by simpa using h) fun i a b ha hb => hr (i + 1) a b (by simpa using ha) (by simpa using hb))
theorem L2.append {l l' : List α} {m m' : List β} (h : L2 R l m) (h' : L2 R l' m') : L2 R (l ++ l') (m ++ m') := by
  induction h with
  | nil => exact h'
  | cons h _ ih => exact .cons h ih
theorem L2.take {l : List α} {m : List β} (h : L2 R l m) : ∀ n, L2 R (l.take n) (m.take n) := by
  induction h with
  | nil => intro n; simp; exact .nil
  | cons h _ ih => intro n; cases n with
    | zero => exact .nil
    | succ n => exact .cons h (ih n)
theorem L2.drop {l : List α} {m : List β} (h : L2 R l m) : ∀ n, L2 R (l.drop n) (m.drop n) := by
  induction h with
  | nil => intro n; simp; exact .nil
  | cons h t ih => intro n; cases n with
    | zero => exact .cons h t
    | succ n => exact ih n
theorem L2.set {l : List α} {m : List β} (h : L2 R l m) : ∀ (i : Nat) {a b}, R a b → L2 R (l.set i a) (m.set i b) := by
  induction h with
  | nil => intro i a b _; exact .nil
  | cons h t ih => intro i a b hr; cases i with
    | zero => exact .cons hr t
    | succ i => exact .cons h (ih i hr)
theorem L2.eq {l m : List α} (h : L2 (fun a b => b = a) l m) : m = l := by
  induction h with
  | nil => rfl
  | cons h _ ih => rw [h, ih]
theorem L2.refl (l : List α) : L2 (fun a b => b = a) l l := by
  induction l with
  | nil => exact .nil
  | cons x l ih => exact .cons rfl ih
theorem L2.flatMap {δ : Type} {R' : γ → δ → Prop} {l : List α} {m : List β} (h : L2 R l m) {f : α → List γ} {g : β → List δ} (hf : ∀ a b, R a b → L2 R' (f a) (g b)) : L2 R' (l.flatMap f) (m.flatMap g) := by
  induction h with
  | nil => exact .nil
  | cons h _ ih => simpa using (hf _ _ h).append ih
end
/-- What was checked is so, and what is owed holds. -/
def Ans.good {α : Type} (r : Ans α) : Prop := r.ok = true ∧ ∀ p ∈ r.owe, p
def Sat {α : Type} (x : M α) (R : α → Prop) : Prop := ∀ o r, x o = some r → r.good → R r.a
section
variable {α β : Type}
theorem Sat.mono {x : M α} {R S : α → Prop} (h : Sat x R) (hr : ∀ a, R a → S a) : Sat x S := fun o r he hg => hr _ (h o r he hg)
theorem Sat.ret (a : α) {R : α → Prop} (h : R a) : Sat (Ex.ret a) R := by
  intro o r he _
  cases he
  exact h
theorem Sat.stop {R : α → Prop} : Sat (Ex.stop : M α) R := by
  intro o r he
  cases he
theorem Sat.bind {x : M α} {f : α → M β} {R : α → Prop} {S : β → Prop} (hx : Sat x R) (hf : ∀ a, R a → Sat (f a) S) : Sat (x.bind f) S := by
  intro o r he hg
  unfold M.bind at he
  split at he
  · cases he
  · rename_i a o1 k w h1
    split at he
    · cases he
    · rename_i b o2 k' w' h2
      simp only [Option.some.injEq] at he
      subst he
      have hk := hg.1
      simp only [Bool.and_eq_true] at hk
      have g1 : (⟨a, o1, k, w⟩ : Ans α).good := ⟨hk.1, fun p hp => hg.2 p (List.mem_append_left _ hp)⟩
      have g2 : (⟨b, o2, k', w'⟩ : Ans β).good := ⟨hk.2, fun p hp => hg.2 p (List.mem_append_right _ hp)⟩
      exact hf a (hx o ⟨a, o1, k, w⟩ h1 g1) o1 ⟨b, o2, k', w'⟩ h2 g2
theorem Sat.map {x : M α} {f : α → β} {S : β → Prop} (hx : Sat x fun a => S (f a)) : Sat (x.map f) S := by
  intro o r he hg
  unfold M.map at he
  split at he
  · cases he
  · rename_i a o1 k w h1
    simp only [Option.some.injEq] at he
    subst he
    exact hx _ _ h1 hg
theorem Sat.lift {x : Option α} {R : α → Prop} (h : ∀ a, x = some a → R a) : Sat (Ex.lift x) R := by
  cases x with
  | none => exact Sat.stop
  | some a => exact Sat.ret a (h a rfl)
theorem Sat.chk {b : Bool} {R : Unit → Prop} (h : b = true → R ()) : Sat (Ex.chk b) R := by
  intro o r he hg
  unfold Ex.chk at he
  split at he
  · cases he
    exact h hg.1
  · cases he
    exact h (hg.2 _ (List.mem_singleton.2 rfl))
  · cases he
  · cases he
    exact h hg.1
theorem Sat.ask {b : Bool} {R : Bool → Prop} (h : R b) : Sat (Ex.ask b) R := by
  intro o r he hg
  unfold Ex.ask at he
  split at he
  · cases he; exact h
  · cases he
    have : b = _ := hg.2 _ (List.mem_singleton.2 rfl)
    subst this
    exact h
  · cases he
  · cases he; exact h
theorem Sat.see {v : Value} : Sat (Ex.see v) fun u => u = v := by
  intro o r he hg
  unfold Ex.see at he
  split at he
  · cases he; rfl
  · cases he
    have : v = _ := hg.2 _ (List.mem_singleton.2 rfl)
    exact this.symm
  · cases he
  · cases he; rfl
end
/-- A step of a proof about what is checked and owed: bind, look at the first, go on. -/
theorem Sat.bind_lift {α β : Type} {x : Option α} {f : α → M β} {S : β → Prop} (hf : ∀ a, x = some a → Sat (f a) S) : Sat ((Ex.lift x).bind f) S := Sat.bind (R := fun a => x = some a) (Sat.lift fun _ h => h) hf
theorem Sat.bind_chk {β : Type} {b : Bool} {f : Unit → M β} {S : β → Prop} (hf : b = true → Sat (f ()) S) : Sat ((Ex.chk b).bind f) S := Sat.bind (R := fun _ => b = true) (Sat.chk fun h => h) fun _ h => hf h
theorem Sat.bind_ask {β : Type} {b : Bool} {f : Bool → M β} {S : β → Prop} (hf : Sat (f b) S) : Sat ((Ex.ask b).bind f) S := Sat.bind (R := fun d => d = b) (Sat.ask rfl) fun _ h => by rw [h]; exact hf
end Go.Proofs.Ytgbncncmoiadaaa.Ex
/- What is known of the temporaries: laws of the tree. -/
namespace Go.Proofs.Ytgbncncmoiadaaa.Ex
open Go
theorem Tr.get_nd (l r : Tr) (v : Option Value) (i : Nat) : (Tr.nd l v r).get i = if i = 0 then v else if i % 2 = 1 then l.get (i / 2) else r.get (i / 2 - 1) := by
  show (bif Nat.beq i 0 then v else bif Nat.beq (i % 2) 1 then l.get (i / 2) else r.get (i / 2 - 1)) = _
  by_cases h0 : i = 0
  · subst h0; rfl
  · have e0 : Nat.beq i 0 = false := (match i, h0 with | 0, h0 => absurd rfl h0 | n + 1, _ => rfl)
    rw [e0, if_neg h0]
    simp only [cond_false]
    by_cases h1 : i % 2 = 1
    · rw [h1, if_pos rfl]; rfl
    · have : i % 2 = 0 := by omega
      rw [this]; rfl
theorem Tr.set_nd (l r : Tr) (v u : Option Value) (i : Nat) : (Tr.nd l v r).set i u = if i = 0 then .nd l u r else if i % 2 = 1 then .nd (l.set (i / 2) u) v r else .nd l v (r.set (i / 2 - 1) u) := by
  show (bif Nat.beq i 0 then Tr.nd l u r else bif Nat.beq (i % 2) 1 then .nd (l.set (i / 2) u) v r else .nd l v (r.set (i / 2 - 1) u)) = _
  by_cases h0 : i = 0
  · subst h0; rfl
  · have e0 : Nat.beq i 0 = false := (match i, h0 with | 0, h0 => absurd rfl h0 | n + 1, _ => rfl)
    rw [e0, if_neg h0]
    simp only [cond_false]
    by_cases h1 : i % 2 = 1
    · rw [h1, if_pos rfl]; rfl
    · have : i % 2 = 0 := by omega
      rw [this]; rfl
theorem Tr.get_set_ne : ∀ (t : Tr) {i j : Nat} (v : Option Value), i ≠ j → (t.set i v).get j = t.get j
  | .nil, _, _, _, _ => rfl
  | .nd l x r, i, j, v, h => by
    rw [Tr.set_nd]
    by_cases h0 : i = 0
    · subst h0
      have j0 : j ≠ 0 := fun c => h c.symm
      rw [if_pos rfl, Tr.get_nd, Tr.get_nd, if_neg j0, if_neg j0]
    · rw [if_neg h0]
      by_cases h1 : i % 2 = 1
      · rw [if_pos h1, Tr.get_nd, Tr.get_nd]
        by_cases j0 : j = 0
        · rw [if_pos j0, if_pos j0]
        · rw [if_neg j0, if_neg j0]
          by_cases j1 : j % 2 = 1
          · rw [if_pos j1, if_pos j1, Tr.get_set_ne l v (by omega)]
          · rw [if_neg j1, if_neg j1]
      · rw [if_neg h1, Tr.get_nd, Tr.get_nd]
        by_cases j0 : j = 0
        · rw [if_pos j0, if_pos j0]
        · rw [if_neg j0, if_neg j0]
          by_cases j1 : j % 2 = 1
          · rw [if_pos j1, if_pos j1]
          · rw [if_neg j1, if_neg j1, Tr.get_set_ne r v (by omega)]
theorem Tr.get_set : ∀ (t : Tr) {i : Nat} {v : Option Value} {u : Value}, (t.set i v).get i = some u → v = some u
  | .nil, _, _, _, h => by cases h
  | .nd l x r, i, v, u, h => by
    rw [Tr.set_nd] at h
    by_cases h0 : i = 0
    · subst h0
      rw [if_pos rfl, Tr.get_nd, if_pos rfl] at h
      exact h
    · rw [if_neg h0] at h
      by_cases h1 : i % 2 = 1
      · rw [if_pos h1, Tr.get_nd, if_neg h0, if_pos h1] at h
        exact Tr.get_set l h
      · rw [if_neg h1, Tr.get_nd, if_neg h0, if_neg h1] at h
        exact Tr.get_set r h
theorem Tr.full_get : ∀ (n i : Nat), (Tr.full n).get i = none
  | 0, _ => rfl
  | n + 1, i => by
    show (Tr.nd (Tr.full n) none (Tr.full n)).get i = none
    rw [Tr.get_nd]
    split
    · rfl
    · split <;> exact Tr.full_get n _
theorem Fr.get_eq (fr : Fr) (i : Nat) : fr.get i = if i < fr.n then fr.t.get i else none := by
  unfold Fr.get
  by_cases h : i < fr.n
  · have : Nat.blt i fr.n = true := Nat.ble_eq_true_of_le h
    rw [this, if_pos h]; rfl
  · have : Nat.blt i fr.n = false := by
      rw [Bool.eq_false_iff]
      intro c
      exact h (Nat.le_of_ble_eq_true c)
    rw [this, if_neg h]; rfl
theorem Fr.empty_get (n i : Nat) : (Fr.empty n).get i = none := by
  rw [Fr.get_eq]
  split
  · exact Tr.full_get _ _
  · rfl
theorem Fr.set_n (fr : Fr) (i : Nat) (v : Option Value) : (fr.set i v).n = fr.n := rfl
theorem Fr.get_ne (fr : Fr) {i j : Nat} (v : Option Value) (h : i ≠ j) : (fr.set i v).get j = fr.get j := by
  rw [Fr.get_eq, Fr.get_eq, Fr.set_n]
  split
  · exact Tr.get_set_ne _ v h
  · rfl
theorem Fr.get_set (fr : Fr) {i : Nat} {v : Option Value} {u : Value} (h : (fr.set i v).get i = some u) : i < fr.n ∧ v = some u := by
  rw [Fr.get_eq, Fr.set_n] at h
  split at h
  · rename_i hi
    exact ⟨hi, Tr.get_set fr.t h⟩
  · cases h
theorem frOf_n (n : Nat) : ∀ l, (frOf n l).n = n
  | [] => rfl
  | (t, v) :: r => by
    show ((frOf n r).set t (some v)).n = n
    rw [Fr.set_n, frOf_n n r]
/-- What a list tells of a frame. -/
theorem frOf_get (n : Nat) : ∀ (l : List (Nat × Value)) (t : Nat) (v : Value), (frOf n l).get t = some v → (t, v) ∈ l
  | [], t, v, h => by
    rw [show frOf n [] = Fr.empty n from rfl, Fr.empty_get] at h
    cases h
  | (s, u) :: r, t, v, h => by
    have h' : ((frOf n r).set s (some u)).get t = some v := h
    by_cases hs : s = t
    · subst hs
      have h1 := (Fr.get_set _ h').2
      cases h1
      exact List.mem_cons_self
    · rw [Fr.get_ne _ _ hs] at h'
      exact List.mem_cons_of_mem _ (frOf_get n r t v h')
theorem frArgs_n (fr : Fr) : ∀ (i : Nat) (vs : List Value), (frArgs fr i vs).n = fr.n
  | _, [] => rfl
  | i, v :: vs => by
    show ((frArgs fr (i + 1) vs).set i (some v)).n = fr.n
    rw [Fr.set_n, frArgs_n fr (i + 1) vs]
theorem frArgs_get (fr : Fr) : ∀ (i : Nat) (vs : List Value) (t : Nat) (v : Value), (frArgs fr i vs).get t = some v → (i ≤ t ∧ vs[t - i]? = some v) ∨ fr.get t = some v
  | _, [], t, v, h => .inr h
  | i, u :: vs, t, v, h => by
    have h' : ((frArgs fr (i + 1) vs).set i (some u)).get t = some v := h
    have old : (frArgs fr (i + 1) vs).get t = some v → (i ≤ t ∧ (u :: vs)[t - i]? = some v) ∨ fr.get t = some v := fun h1 => by
      rcases frArgs_get fr (i + 1) vs t v h1 with ⟨h2, h3⟩ | h2
      · refine .inl ⟨by omega, ?_⟩
        have : t - i = (t - (i + 1)) + 1 := by omega
        rw [this]
        simpa using h3
      · exact .inr h2
    by_cases hs : i = t
    · subst hs
      exact .inl ⟨Nat.le_refl _, by simpa using (Fr.get_set _ h').2⟩
    · rw [Fr.get_ne _ _ hs] at h'
      exact old h'
end Go.Proofs.Ytgbncncmoiadaaa.Ex
/- Values with abstract names and the real ones; what one operation leaves behind. -/
namespace Go.Proofs.Ytgbncncmoiadaaa.Ex
open Go
set_option linter.unusedVariables false
set_option linter.unusedSimpArgs false
def Le (ν ν' : Nu) : Prop := ∀ id N, ν id = some N → ν' id = some N
theorem Le.refl (ν : Nu) : Le ν ν := fun _ _ h => h
theorem VR0.le {ν ν' : Nu} (h : Le ν ν') {v v' : Value} (hv : VR0 ν v v') : VR0 ν' v v' := by
  unfold VR0 at hv ⊢
  split
  · obtain ⟨N, h1, h2, h3⟩ := hv
    exact ⟨N, h _ _ h1, h2, h3⟩
  · obtain ⟨a', c', h1, h2, h3, h4⟩ := hv
    refine ⟨a', c', h1, h2, h3, fun hc => ?_⟩
    obtain ⟨N, k1, k2⟩ := h4 hc
    exact ⟨N, h _ _ k1, k2⟩
  all_goals first | exact hv | (exfalso; revert hv; split <;> first | exact id | (intro hv; simp_all))
theorem VR1.le {ν ν' : Nu} (h : Le ν ν') {v v' : Value} (hv : VR1 ν v v') : VR1 ν' v v' := by
  cases v with
  | func fn f c =>
    obtain ⟨f', c', h1, h2, h3⟩ := hv
    exact ⟨f', c', h1, h2.mono fun _ _ => VR0.le h, h3.mono fun _ _ => VR0.le h⟩
  | _ => simp only [VR1] at hv ⊢; exact VR0.le h hv
theorem VRC.le {ν ν' : Nu} (h : Le ν ν') {v v' : Value} (hv : VRC ν v v') : VRC ν' v v' := by
  cases v with
  | agg cs =>
    obtain ⟨c', h1, h2⟩ := hv
    exact ⟨c', h1, h2.mono fun _ _ => VR1.le h⟩
  | _ => simp only [VRC] at hv ⊢; exact VR1.le h hv
theorem VR.le {ν ν' : Nu} (h : Le ν ν') {v v' : Value} (hv : VR ν v v') : VR ν' v v' := by
  cases v with
  | tuple cs =>
    obtain ⟨c', h1, h2⟩ := hv
    exact ⟨c', h1, h2.mono fun _ _ => VRC.le h⟩
  | _ => simp only [VR] at hv ⊢; exact VRC.le h hv
theorem flat1_VR {ν : Nu} {v : Value} (h : flat1 v = true) (v' : Value) : VR1 ν v v' ↔ v' = v := by
  unfold flat1 at h
  split at h
  all_goals first | (exact Iff.rfl) | (simp at h; done) | skip
  all_goals
    simp only [Bool.and_eq_true, beq_iff_eq, Array.size_eq_zero_iff] at h
    obtain ⟨rfl, rfl⟩ := h
    constructor
    · rintro ⟨f', c', rfl, h1, h2⟩
      cases f' with
      | mk f' => cases c' with
        | mk c' =>
          cases h1
          cases h2
          rfl
    · rintro rfl
      exact ⟨_, _, rfl, .nil, .nil⟩
theorem flat_L2 {ν : Nu} {cs : List Value} (h : cs.all flat1 = true) {cs' : List Value} : L2 (VR1 ν) cs cs' ↔ cs' = cs := by
  induction cs generalizing cs' with
  | nil => exact ⟨fun h => by cases h; rfl, fun h => by subst h; exact .nil⟩
  | cons x cs ih =>
    simp only [List.all_cons, Bool.and_eq_true] at h
    constructor
    · intro hl
      cases hl with
      | cons h1 h2 => rw [(flat1_VR h.1 _).1 h1, (ih h.2).1 h2]
    · rintro rfl
      exact .cons ((flat1_VR h.1 _).2 rfl) ((ih h.2).2 rfl)
theorem flatC_VR {ν : Nu} {v : Value} (h : flatC v = true) (v' : Value) : VRC ν v v' ↔ v' = v := by
  cases v with
  | agg cs =>
    constructor
    · rintro ⟨cs', rfl, hl⟩
      rw [flat_L2 h] at hl
      cases cs'; cases cs; simp_all
    · rintro rfl
      exact ⟨_, rfl, (flat_L2 h).2 rfl⟩
  | _ => simp only [flatC] at h; simp only [VRC]; exact flat1_VR h v'
theorem flatC_L2 {ν : Nu} {cs : List Value} (h : cs.all flatC = true) {cs' : List Value} : L2 (VRC ν) cs cs' ↔ cs' = cs := by
  induction cs generalizing cs' with
  | nil => exact ⟨fun h => by cases h; rfl, fun h => by subst h; exact .nil⟩
  | cons x cs ih =>
    simp only [List.all_cons, Bool.and_eq_true] at h
    constructor
    · intro hl
      cases hl with
      | cons h1 h2 => rw [(flatC_VR h.1 _).1 h1, (ih h.2).1 h2]
    · rintro rfl
      exact .cons ((flatC_VR h.1 _).2 rfl) ((ih h.2).2 rfl)
theorem flat_VR {ν : Nu} {v : Value} (h : flat v = true) (v' : Value) : VR ν v v' ↔ v' = v := by
  cases v with
  | tuple cs =>
    constructor
    · rintro ⟨cs', rfl, hl⟩
      rw [flatC_L2 h] at hl
      cases cs'; cases cs; simp_all
    · rintro rfl
      exact ⟨_, rfl, (flatC_L2 h).2 rfl⟩
  | _ => simp only [flat] at h; simp only [VR]; exact flatC_VR h v'
/-- A value that is no tuple and no struct stands as a cell does. -/
theorem VR1.not_agg {ν : Nu} {v : Value} {cs : Array Value} (h : VR1 ν v (.agg cs)) : False := by
  cases v with
  | func fn f c => obtain ⟨_, _, hh, _⟩ := h; cases hh
  | pointer a => cases a with
    | none => simp [VR1, VR0] at h
    | some a => obtain ⟨_, _, _, hh⟩ := h; cases hh
  | slice a l c => cases a with
    | some a => obtain ⟨_, _, hh, _⟩ := h; cases hh
    | none => cases l <;> cases c <;> simp [VR1, VR0] at h
  | map r => cases r <;> simp [VR1, VR0] at h
  | _ => simp [VR1, VR0] at h
theorem cells_one {u : Value} (h : ∀ cs, u ≠ .agg cs) : u.cells = #[u] := by
  cases u with
  | agg cs => exact absurd rfl (h cs)
  | _ => rfl
theorem VRC.cells {ν : Nu} {v v' : Value} (h : VRC ν v v') : L2 (VR1 ν) v.cells.toList v'.cells.toList := by
  by_cases hv : ∃ cs, v = .agg cs
  · obtain ⟨cs, rfl⟩ := hv
    obtain ⟨cs', rfl, hl⟩ := h
    exact hl
  · have hv' : ∀ cs, v ≠ .agg cs := fun cs e => hv ⟨cs, e⟩
    have h1 : VR1 ν v v' := by
      cases v with
      | agg cs => exact absurd rfl (hv' cs)
      | _ => simp only [VRC] at h; exact h
    rw [cells_one hv', cells_one (u := v') (fun cs e => (e ▸ h1 : VR1 ν v (.agg cs)).not_agg)]
    exact .cons h1 .nil
theorem CR.le {P : Program} {ν ν' : Nu} {e : TypeId} (h : Le ν ν') {v v' : Value} (hv : CR P ν e v v') : CR P ν' e v v' := ⟨hv.1.le h, hv.2⟩
theorem RepBlk.le {P : Program} {ν ν' : Nu} {w w' : World} {id : Nat} {b : Blk} (h : Le ν ν') (hb : RepBlk P ν w id b) (hw : ∀ N, ν id = some N → b.live = true → w'.heap[N.g]? = w.heap[N.g]?)
    (hs : w.heap.size ≤ w'.heap.size) : RepBlk P ν' w' id b := by
  cases b with
  | dead => trivial
  | own e cs =>
    obtain ⟨g, cur, lo, hi, h1, h2, h3, h4, h5⟩ := hb
    exact ⟨g, cur, lo, hi, h _ _ h1, (hw _ h1 rfl).trans h2, h3, h4, h5.mono fun _ _ => CR.le h⟩
  | ro e cs =>
    obtain ⟨N, h1, h3, h4, cs', h5, h6⟩ := hb
    refine ⟨N, h _ _ h1, h3, Nat.lt_of_lt_of_le h4 hs, cs', h5.mono fun _ _ => CR.le h, fun i v hv => ?_⟩
    have := h6 i v hv
    unfold World.cell? at this ⊢
    have e : w'.heap[(N.at i).block]? = w.heap[(N.at i).block]? := hw _ h1 rfl
    rw [e]
    exact this
/-- The cells of a block, read. -/
theorem RepBlk.read {P : Program} {ν : Nu} {w : World} {id : Nat} {hp : Hp} {cs : List Value} (hb : RepBlk P ν w id (hp.getD id .dead)) (hc : cellsAt hp id = some cs) :
    ∃ N cs', ν id = some N ∧ L2 (VR1 ν) cs cs' ∧ ∀ i v, cs'[i]? = some v → w.cell? (N.at i) = some v := by
  unfold cellsAt at hc
  split at hc
  · rename_i e cs0 he
    cases hc
    rw [he] at hb
    obtain ⟨g, cur, lo, hi, h1, h2, h3, h4, h5⟩ := hb
    refine ⟨_, _, h1, h5.mono fun _ _ h => h.1, fun i v hv => ?_⟩
    have hv' : cur[i]? = some v := by
      rw [List.getElem?_take] at hv
      split at hv
      · simpa using hv
      · cases hv
    simp [World.cell?, Nm.at, h2, hv']
  · rename_i e cs0 he
    cases hc
    rw [he] at hb
    obtain ⟨N, h1, h3, h4, cs', h5, h6⟩ := hb
    exact ⟨N, cs', h1, h5.mono fun _ _ h => h.1, h6⟩
  · cases hc
end Go.Proofs.Ytgbncncmoiadaaa.Ex
/- What one operation does: those that change no memory. -/
namespace Go.Proofs.Ytgbncncmoiadaaa.Ex
open Go
set_option linter.unusedVariables false
set_option linter.unusedSimpArgs false
/-- What an operation may do to the abstract heap. -/
structure Shape (F : List Nat) (hp : Hp) (r : Res) : Prop where
  len : hp.length ≤ r.hp.length
  wr : ∀ id, id ∈ r.wr → id ∈ F ∧ id < hp.length
  own : ∀ id, id ∈ r.wr → (hp.getD id .dead).isOwn = true
  keep : ∀ id, id < hp.length → ¬ id ∈ r.wr → r.hp.getD id .dead = hp.getD id .dead
structure Pre (P : Program) (F : List Nat) (ν : Nu) (hp : Hp) (w : World) : Prop where
  dom : ∀ id, hp.length ≤ id → ν id = none
  blk : ∀ id, id ∈ F → RepBlk P ν w id (hp.getD id .dead)
  sep : ∀ i j N K, i ≠ j → i ∈ F → j ∈ F → (hp.getD i .dead).isOwn = true → (hp.getD j .dead).live = true → ν i = some N → ν j = some K → N.g ≠ K.g
structure Post (P : Program) (F : List Nat) (ν : Nu) (hp : Hp) (w : World) (r : Res) (ν' : Nu) (w' : World) : Prop where
  same : ∀ id, id < hp.length → ν' id = ν id
  dom : ∀ id, r.hp.length ≤ id → ν' id = none
  blk : ∀ id, id ∈ F ∨ hp.length ≤ id → RepBlk P ν' w' id (r.hp.getD id .dead)
  sep : ∀ i j N K, i ≠ j → (i ∈ F ∨ hp.length ≤ i) → (j ∈ F ∨ hp.length ≤ j) → (r.hp.getD i .dead).isOwn = true → (r.hp.getD j .dead).live = true → ν' i = some N → ν' j = some K → N.g ≠ K.g
  os : w'.os = w.os
  tape : w'.tape = w.tape
  output : w'.output = w.output
  size : w.heap.size ≤ w'.heap.size
  frame : ∀ g, g < w.heap.size → (∀ id N, id ∈ r.wr → ν id = some N → N.g ≠ g) → w'.heap[g]? = w.heap[g]?
  fresh : ∀ id N, hp.length ≤ id → (r.hp.getD id .dead).live = true → ν' id = some N → w.heap.size ≤ N.g ∨ ∃ j K, j ∈ r.wr ∧ ν j = some K ∧ K.g = N.g
/-- The operands stand for the real ones. -/
def Env (ν : Nu) (fr : Fr) (a : Act) (o : Oper) : Prop := ∀ x, x ∈ o.op.operands → ∀ v, val fr x = some v → VR ν v (a.eval x)
def OpOk (P : Program) (F : List Nat) (fr : Fr) (hp : Hp) (o : Oper) (r : Res) : Prop :=
  Shape F hp r ∧ ∀ ν (a : Act) w, Env ν fr a o → Pre P F ν hp w → ∀ (next : Act → World → Prop) (Q : Exit → Act → World → Prop),
    (∀ ν' v' w', Post P F ν hp w r ν' w' → VR ν' r.v v' → next (a.put o.dst v') w') → o.wp P a w next Q
section
variable {P : Program} {F : List Nat} {fr : Fr} {hp : Hp} {o : Oper}
theorem getD_out {id : Nat} (h : hp.length ≤ id) : hp.getD id .dead = .dead := by
  rw [List.getD_eq_getElem?_getD, List.getElem?_eq_none h]
  rfl
theorem Shape.same (v : Value) : Shape F hp ⟨v, hp, []⟩ := ⟨Nat.le_refl _, fun _ h => by simp at h, fun _ h => by simp at h, fun _ _ _ => rfl⟩
theorem Post.refl_ {ν : Nu} {w : World} (h : Pre P F ν hp w) (v : Value) : Post P F ν hp w ⟨v, hp, []⟩ ν w where
  same := fun _ _ => rfl
  dom := h.dom
  blk := fun id hid => by
    rcases hid with h1 | h1
    · exact h.blk id h1
    · show RepBlk P ν w id (hp.getD id .dead)
      rw [getD_out h1]
      trivial
  sep := fun i j N K hne hi hj ho hl h1 h2 => by
    rcases hi with hi | hi
    · rcases hj with hj | hj
      · exact h.sep i j N K hne hi hj ho hl h1 h2
      · change (hp.getD j .dead).live = true at hl
        rw [getD_out hj] at hl
        cases hl
    · change (hp.getD i .dead).isOwn = true at ho
      rw [getD_out hi] at ho
      cases ho
  os := rfl
  tape := rfl
  output := rfl
  size := Nat.le_refl _
  frame := fun _ _ _ => rfl
  fresh := fun id N hid hl _ => by
    change (hp.getD id .dead).live = true at hl
    rw [getD_out hid] at hl
    cases hl
theorem wp_value {a : Act} {w w' : World} {v' : Value} {next : Act → World → Prop} {Q : Exit → Act → World → Prop} (h : (execOp a.eval o).run P w = .ok (.value v') w') (hn : next (a.put o.dst v') w') : o.wp P a w next Q := by
  unfold Oper.wp
  rw [h]
  exact hn
theorem wp_skip_ {a : Act} {w w' : World} {next : Act → World → Prop} {Q : Exit → Act → World → Prop} (h : (execOp a.eval o).run P w = .ok .skip w') (hn : next (a.put o.dst undef) w') : o.wp P a w next Q := by
  unfold Oper.wp
  rw [h]
  exact hn
/-- An operation that changes no memory. -/
theorem OpOk.pure {v : Value} (h : ∀ ν (a : Act) w, Env ν fr a o → Pre P F ν hp w → ∃ v', (execOp a.eval o).run P w = .ok (.value v') w ∧ VR ν v v') : OpOk P F fr hp o ⟨v, hp, []⟩ := by
  refine ⟨Shape.same v, fun ν a w he hp' next Q hn => ?_⟩
  obtain ⟨v', h1, h2⟩ := h ν a w he hp'
  exact wp_value h1 (hn ν v' w (Post.refl_ hp' v) h2)
theorem run_sz {t : TypeId} {n : Nat} (h : sz P t = some n) (w : World) : (sizeOf t).run P w = .ok n w := by
  unfold sz at h
  cases hi : P.info? t with
  | none => rw [hi] at h; cases h
  | some i => rw [hi] at h; cases h; simp [sizeOf, typeInfo, hi]
theorem run_zeroT {t : TypeId} {z : Value} (h : zeroT P t = some z) (w : World) : (zeroValue t).run P w = .ok z w := by
  unfold zeroT at h
  cases hi : P.info? t with
  | none => rw [hi] at h; cases h
  | some i =>
    rw [hi] at h
    change i.zero = some z at h
    simp [zeroValue, typeInfo, hi, h]
theorem run_und {t : TypeId} {d : TypeDesc} (h : P.underlying t = some d) (w : World) : (underlying t).run P w = .ok d w := by simp [underlying, h]
theorem run_aggT {t : TypeId} {g : Bool} (h : aggT P t = some g) (w : World) : (isAgg t).run P w = .ok g w := by
  unfold aggT at h
  cases hu : P.underlying t with
  | none => rw [hu] at h; cases h
  | some d =>
    rw [hu] at h
    cases h
    simp only [isAgg, Sem.run_bind, run_und hu, Result.andThen_ok]
    cases d <;> rfl
theorem VR.int {ν : Nu} {k : IntKind} {n : Int} {v' : Value} (h : VR ν (.int k n) v') : v' = .int k n := h
theorem VR.bool {ν : Nu} {b : Bool} {v' : Value} (h : VR ν (.bool b) v') : v' = .bool b := h
theorem VR.str {ν : Nu} {s : ByteArray} {v' : Value} (h : VR ν (.string s) v') : v' = .string s := h
theorem VR.ptr {ν : Nu} {b o : Nat} {v' : Value} (h : VR ν (.pointer (some ⟨b, o, none⟩)) v') : ∃ N, ν b = some N ∧ v' = .pointer (some (N.at o)) := by
  obtain ⟨N, h1, _, h2⟩ := h
  exact ⟨N, h1, h2⟩
theorem VR.of1 {ν : Nu} {v v' : Value} (h : VR1 ν v v') : VR ν v v' := by
  cases v with
  | agg cs => simp [VR1, VR0] at h
  | tuple cs => simp [VR1, VR0] at h
  | _ => simp only [VR, VRC]; exact h
theorem VR.ofC {ν : Nu} {v v' : Value} (h : VRC ν v v') : VR ν v v' := by
  cases v with
  | tuple cs => simp [VRC, VR1, VR0] at h
  | _ => simp only [VR]; exact h
theorem at_add (N : Nm) (i j : Nat) : (N.at i).add j = N.at (i + j) := by
  unfold Addr.add Nm.at
  split
  · rename_i h
    subst h
    rfl
  · simp only [Addr.mk.injEq, and_true, true_and]
    omega
theorem Sat.asT {t : TypeId} {v : Value} : Sat (asT P t v) fun u => u = v := by
  unfold Ex.asT
  split
  · refine Sat.bind_chk fun h => Sat.ret _ ?_
    unfold isInt at h
    split at h
    · simp only [beq_iff_eq] at h
      subst h
      rfl
    · cases h
  · refine Sat.bind_chk fun h => Sat.ret _ ?_
    unfold isBool at h
    split at h
    · rfl
    · cases h
  · refine Sat.bind_chk fun h => Sat.ret _ ?_
    unfold isStr at h
    split at h
    · rfl
    · cases h
  · exact Sat.ret _ rfl
theorem L2.slice {α β : Type} {R : α → β → Prop} {l : List α} {m : List β} (h : L2 R l m) (o n : Nat) : L2 R ((l.drop o).take n) ((m.drop o).take n) := (h.drop o).take n
/-- A read. -/
theorem load_ok {t : TypeId} {b o : Nat} {cs : List Value} {ν : Nu} {w : World} {g : Bool} (hb : RepBlk P ν w b (hp.getD b .dead)) (hc : cellsAt hp b = some cs) (hg : aggT P t = some g) :
    ∃ N, ν b = some N ∧
    (g = true → ∀ n, sz P t = some n → o + n ≤ cs.length → ∃ v', (loadVar t (N.at o)).run P w = .ok v' w ∧ VR ν (.agg ((cs.drop o).take n).toArray) v') ∧
    (g = false → o < cs.length → ∃ v', (loadVar t (N.at o)).run P w = .ok v' w ∧ VR ν (cs.getD o undef) v') := by
  obtain ⟨N, cs', h1, h3, h4⟩ := hb.read hc
  refine ⟨N, h1, fun e n hn hle => ?_, fun e hlt => ?_⟩
  · subst e
    have hl : ((cs'.drop o).take n).length = n := by
      rw [List.length_take, List.length_drop, ← h3.len]
      omega
    have hrow : ∀ j v, ((cs'.drop o).take n)[j]? = some v → w.cell? ((N.at o).add j) = some v := by
      intro j v hj
      rw [at_add]
      refine h4 (o + j) v ?_
      rw [List.getElem?_take] at hj
      split at hj
      · rwa [List.getElem?_drop] at hj
      · cases hj
    have hr := run_loadCells_list (P := P) (w := w) (N.at o) _ hrow
    rw [hl] at hr
    refine ⟨.agg ((cs'.drop o).take n).toArray, ?_, ?_⟩
    · simp only [loadVar, Sem.run_bind, run_aggT hg, Result.andThen_ok, if_true, run_sz hn, hr, Sem.run_pure]
    · exact ⟨_, rfl, by simpa using h3.slice o n⟩
  · subst e
    have hx : cs[o]? = some (cs.getD o undef) := by rw [List.getD_eq_getElem?_getD, List.getElem?_eq_getElem hlt]; rfl
    obtain ⟨v', hv', hr⟩ := h3.get o _ hx
    have hcell := h4 o v' hv'
    refine ⟨v', ?_, VR.of1 hr⟩
    simp only [loadVar, Sem.run_bind, run_aggT hg, Result.andThen_ok, Bool.false_eq_true, if_false, run_load, hcell]
theorem load_sat {x : Operand} {t : TypeId} {v : Value} (ho : o.op = .load t x) (hv : val fr x = some v) (hF : ∀ id, id ∈ idsV v → id ∈ F) : Sat ((loadA P hp t v).map fun v => (⟨v, hp, []⟩ : Res)) (OpOk P F fr hp o) := by
  apply Sat.map
  unfold loadA
  split
  · rename_i b off
    have hbF : b ∈ F := hF b (by simp [idsV, idsVC, idsV1])
    refine Sat.bind_lift fun cs hc => Sat.bind_lift fun g hg => ?_
    have key : ∀ u, (∀ ν (w : World), Pre P F ν hp w → ∀ N, ν b = some N → ∃ v', (loadVar t (N.at off)).run P w = .ok v' w ∧ VR ν u v') → OpOk P F fr hp o ⟨u, hp, []⟩ := by
      intro u hu
      refine OpOk.pure fun ν a w he hpre => ?_
      obtain ⟨N, h1, h2⟩ := VR.ptr (he x (by rw [ho]; simp [Op.operands]) _ hv)
      obtain ⟨v', h3, h4⟩ := hu ν w hpre N h1
      refine ⟨v', ?_, h4⟩
      simp only [execOp, ho, h2, Instr.loadAt, Instr.sureAddr, Sem.run_bind, Sem.run_pure, Result.andThen_ok, h3]
    cases g with
    | true =>
      rw [if_pos rfl]
      refine Sat.bind_lift fun n hn => Sat.bind_chk fun hle => Sat.ret _ (key _ fun ν w hpre N h1 => ?_)
      obtain ⟨N', h1', h2, _⟩ := load_ok (o := off) (hpre.blk b hbF) hc hg
      rw [h1] at h1'
      cases h1'
      exact h2 rfl n hn (by simpa using hle)
    | false =>
      rw [if_neg Bool.false_ne_true]
      refine Sat.bind_chk fun hlt => Sat.asT.mono fun u hu => key _ fun ν w hpre N h1 => ?_
      subst hu
      obtain ⟨N', h1', _, h2⟩ := load_ok (o := off) (hpre.blk b hbF) hc hg
      rw [h1] at h1'
      cases h1'
      exact h2 rfl (by simpa using hlt)
  · exact Sat.stop
end
end Go.Proofs.Ytgbncncmoiadaaa.Ex
/- What one operation does: the others that change no memory. -/
namespace Go.Proofs.Ytgbncncmoiadaaa.Ex
open Go
set_option linter.unusedVariables false
set_option linter.unusedSimpArgs false
section
variable {P : Program} {F : List Nat} {fr : Fr} {hp : Hp} {o : Oper}
theorem pureRun_run {α : Type} {s : Sem α} {a : α} : pureRun P s = some a → ∀ w, s.run P w = .ok a w := by
  induction s with
  | pure b => intro h w; cases h; rfl
  | program k ih => intro h w; exact ih P h w
  | mark m k ih => intro h w; exact ih h w
  | _ => intro h w; cases h
theorem val_eval {ν : Nu} {a : Act} {x : Operand} {v : Value} (h : FrRel ν fr a.tmps) (hv : val fr x = some v) : VR ν v (a.eval x) := by
  cases x with
  | tmp t =>
    obtain ⟨v', h1, h2⟩ := h.2 t v hv
    have : a.eval (.tmp t) = v' := by simp [Act.eval, h1]
    rw [this]
    exact h2
  | const c =>
    simp only [val] at hv
    split at hv
    · rename_i hf
      cases hv
      exact (flat_VR hf _).2 rfl
    · cases hv
  | func f => cases hv; exact ⟨#[], #[], rfl, .nil, .nil⟩
  | global g => cases hv
theorem vals_mem : ∀ {xs : List Operand} {vs : List Value}, vals fr xs = some vs → ∀ x, x ∈ xs → ∃ v, v ∈ vs ∧ val fr x = some v
  | [], _, _, x, hx => by simp at hx
  | y :: ys, vs, h, x, hx => by
    simp only [vals] at h
    cases hy : val fr y with
    | none => rw [hy] at h; cases h
    | some v =>
      rw [hy] at h
      change (vals fr ys).bind (fun vs => some (v :: vs)) = some vs at h
      cases hys : vals fr ys with
      | none => rw [hys] at h; cases h
      | some us =>
        rw [hys] at h
        cases h
        rcases List.mem_cons.1 hx with rfl | hx
        · exact ⟨v, List.mem_cons_self .., hy⟩
        · obtain ⟨u, h1, h2⟩ := vals_mem hys x hx
          exact ⟨u, List.mem_cons_of_mem _ h1, h2⟩
theorem vals_L2 {ν : Nu} {a : Act} : ∀ {xs : List Operand} {vs : List Value}, vals fr xs = some vs → (∀ x, x ∈ xs → ∀ v, val fr x = some v → VR ν v (a.eval x)) → L2 (VR ν) vs (xs.map a.eval)
  | [], vs, h, _ => by cases h; exact .nil
  | y :: ys, vs, h, he => by
    simp only [vals] at h
    cases hy : val fr y with
    | none => rw [hy] at h; cases h
    | some v =>
      rw [hy] at h
      change (vals fr ys).bind (fun vs => some (v :: vs)) = some vs at h
      cases hys : vals fr ys with
      | none => rw [hys] at h; cases h
      | some us =>
        rw [hys] at h
        cases h
        exact .cons (he y (List.mem_cons_self ..) v hy) (vals_L2 hys fun x hx => he x (List.mem_cons_of_mem _ hx))
theorem plain_ok {v : Value} (h : plainA P fr o = some v) {ν : Nu} {a : Act} (he : Env ν fr a o) (w : World) : (execOp a.eval o).run P w = .ok (.value v) w ∧ VR ν v v := by
  have main : (∀ cs b, o.op ≠ .select cs b) → ((vals fr o.op.operands.toList).bind fun vs => if vs.all flat = true then (pureRun P (execOp (envOf fr) o)).bind fun | .value v => if flat v = true then some v else none | _ => none else none) = some v →
      (execOp a.eval o).run P w = .ok (.value v) w ∧ VR ν v v := by
    intro hs h
    cases hvs : vals fr o.op.operands.toList with
    | none => rw [hvs] at h; cases h
    | some vs =>
      rw [hvs] at h
      simp only [Option.bind_some] at h
      split at h
      · rename_i hfl
        cases hp' : pureRun P (execOp (envOf fr) o) with
        | none => rw [hp'] at h; cases h
        | some n =>
          rw [hp'] at h
          simp only [Option.bind_some] at h
          have hcong : execOp a.eval o = execOp (envOf fr) o := execOp_congr o hs fun x hx => by
            obtain ⟨u, h1, h2⟩ := vals_mem hvs x (by simpa using hx)
            have hu : flat u = true := List.all_eq_true.1 hfl u h1
            rw [(flat_VR hu _).1 (he x hx u h2)]
            simp [envOf, h2]
          rw [hcong, pureRun_run hp']
          cases n with
          | value u =>
            simp only at h
            split at h
            · rename_i hf
              cases h
              exact ⟨rfl, (flat_VR hf _).2 rfl⟩
            · cases h
          | _ => cases h
      · cases h
  unfold plainA at h
  split at h
  · cases h
  · rename_i hs
    exact main (fun cs b e => hs _ _ e) h
theorem plain_sat : Sat ((lift (plainA P fr o)).map fun v => (⟨v, hp, []⟩ : Res)) (OpOk P F fr hp o) :=
  Sat.map (Sat.lift fun v hv => OpOk.pure fun ν a w he _ => ⟨v, plain_ok hv he w⟩)
theorem move_sat {x : Operand} (ho : o.op = .move x ∨ o.op = .assign x) : Sat ((lift (val fr x)).map fun v => (⟨v, hp, []⟩ : Res)) (OpOk P F fr hp o) :=
  Sat.map (Sat.lift fun v hv => OpOk.pure fun ν a w he _ => by
    rcases ho with ho | ho
    · exact ⟨a.eval x, by simp [execOp, ho], he x (by simp [ho, Op.operands]) v hv⟩
    · exact ⟨a.eval x, by simp [execOp, ho], he x (by simp [ho, Op.operands]) v hv⟩)
theorem pick_sat {c x y : Operand} (ho : o.op = .pick c x y) : Sat ((lift (val fr c)).bind fun c => match c with
      | .bool c => (ask c).bind fun c => if c = true then (lift (val fr x)).map fun v => (⟨v, hp, []⟩ : Res) else (lift (val fr y)).map fun v => (⟨v, hp, []⟩ : Res)
      | _ => stop) (OpOk P F fr hp o) := by
  refine Sat.bind_lift fun v hv => ?_
  split
  · rename_i b
    refine Sat.bind_ask ?_
    have hc : ∀ ν (a : Act), Env ν fr a o → a.eval c = .bool b := fun ν a he => he c (by simp [ho, Op.operands]) _ hv
    cases b with
    | true =>
      rw [if_pos rfl]
      exact Sat.map (Sat.lift fun v hv => OpOk.pure fun ν a w he _ => ⟨a.eval x, by simp [execOp, ho, hc ν a he, asBool], he x (by simp [ho, Op.operands]) v hv⟩)
    | false =>
      rw [if_neg Bool.false_ne_true]
      exact Sat.map (Sat.lift fun v hv => OpOk.pure fun ν a w he _ => ⟨a.eval y, by simp [execOp, ho, hc ν a he, asBool], he y (by simp [ho, Op.operands]) v hv⟩)
  · exact Sat.stop
theorem nil_sat {x : Operand} (ho : o.op = .nilCheck x) : Sat ((lift (val fr x)).bind fun v => match v with | .pointer (some a) => ret (⟨.pointer (some a), hp, []⟩ : Res) | _ => stop) (OpOk P F fr hp o) := by
  refine Sat.bind_lift fun v hv => ?_
  split
  · rename_i ad
    refine Sat.ret _ (OpOk.pure fun ν a w he _ => ?_)
    have h := he x (by simp [ho, Op.operands]) _ hv
    refine ⟨a.eval x, ?_, h⟩
    obtain ⟨N, _, _, h3⟩ := h
    simp [execOp, ho, h3]
  · exact Sat.stop
theorem field_sat {s : TypeId} {x : Operand} {f : Nat} (ho : o.op = .fieldAddr s x f) : Sat ((lift (val fr x)).bind fun v => (lift (fieldA P s v f)).map fun v => (⟨v, hp, []⟩ : Res)) (OpOk P F fr hp o) := by
  refine Sat.bind_lift fun v hv => Sat.map (Sat.lift fun u hu => OpOk.pure fun ν a w he _ => ?_)
  unfold fieldA at hu
  split at hu
  · rename_i b off fs hs
    obtain ⟨N, h1, h2⟩ := VR.ptr (he x (by simp [ho, Op.operands]) _ hv)
    cases hg : fs[f]? with
    | none => rw [hg] at hu; cases hu
    | some g =>
      rw [hg] at hu
      simp only [Option.bind_some] at hu
      cases hn : sz P g.type with
      | none => rw [hn] at hu; cases hu
      | some n =>
        rw [hn] at hu
        simp only [Option.bind_some] at hu
        split at hu
        · cases hu
        · rename_i h0
          cases hu
          refine ⟨.pointer (some (N.at (off + g.offset))), ?_, ⟨N, h1, rfl, rfl⟩⟩
          simp [execOp, ho, h2, Instr.fieldAt, run_und hs, hg, Instr.sureAddr, fieldPlace, run_sz hn, h0, at_add]
  · cases hu
theorem index_run {t : TypeId} {d : TypeDesc} (hd : P.underlying t = some d) {x : Value} {k : IntKind} {i : Int} {base : Addr} {len : Nat} {e : TypeId} {n : Nat} (hn : sz P e = some n) (h0 : 0 ≤ i) (h1 : i < (len : Int))
    (hx : (∃ N : Nat, d = .array N e ∧ x = .pointer (some base) ∧ len = N) ∨ (∃ c, d = .slice e ∧ x = .slice (some base) len c)) (w : World) :
    (Instr.indexAt t x (.int k i)).run P w = .ok (.pointer (some (base.add (i.toNat * n)))) w := by
  rcases hx with ⟨N, rfl, rfl, rfl⟩ | ⟨c, rfl, rfl⟩
  · simp [Instr.indexAt, asIntOf, run_und hd, Instr.sureAddr, h0, h1, run_sz hn]
  · simp [Instr.indexAt, asIntOf, run_und hd, h0, h1, run_sz hn]
theorem index_sat {t : TypeId} {x i : Operand} (ho : o.op = .indexAddr t x i) : Sat ((lift (val fr x)).bind fun v => (lift (val fr i)).bind fun i => (indexA P t v i).map fun v => (⟨v, hp, []⟩ : Res)) (OpOk P F fr hp o) := by
  refine Sat.bind_lift fun v hv => Sat.bind_lift fun iv hi => Sat.map ?_
  unfold indexA
  split
  · rename_i len e b off k i0 hd
    refine Sat.bind_lift fun n hn => Sat.bind_chk fun hin => Sat.ret _ (OpOk.pure fun ν a w he _ => ?_)
    obtain ⟨N, h1, h2⟩ := VR.ptr (he x (by simp [ho, Op.operands]) _ hv)
    have h3 : a.eval i = .int k i0 := he i (by simp [ho, Op.operands]) _ hi
    simp only [inside, Bool.and_eq_true, decide_eq_true_eq] at hin
    refine ⟨.pointer (some (N.at (off + i0.toNat * n))), ?_, ⟨N, h1, rfl, rfl⟩⟩
    have := index_run (P := P) hd (x := .pointer (some (N.at off))) (k := k) hn hin.1 hin.2 (.inl ⟨len, rfl, rfl, rfl⟩) w
    simp [execOp, ho, h2, h3, this, at_add]
  · rename_i e b off len c k i0 hd
    refine Sat.bind_lift fun n hn => Sat.bind_chk fun hin => Sat.ret _ (OpOk.pure fun ν a w he _ => ?_)
    obtain ⟨a', cap', h1, h2, h4, h5⟩ := he x (by simp [ho, Op.operands]) _ hv
    have h3 : a.eval i = .int k i0 := he i (by simp [ho, Op.operands]) _ hi
    simp only [inside, Bool.and_eq_true, decide_eq_true_eq] at hin
    obtain ⟨N, h6, _, rfl, _⟩ := h5 (by omega)
    refine ⟨.pointer (some (N.at (off + i0.toNat * n))), ?_, ⟨N, h6, rfl, rfl⟩⟩
    have := index_run (P := P) hd (x := .slice (some (N.at off)) len cap') (k := k) hn hin.1 hin.2 (.inr ⟨cap', rfl, rfl⟩) w
    simp [execOp, ho, h1, h3, this, at_add]
  · exact Sat.stop
theorem VRC.agg {ν : Nu} {cs : Array Value} {v' : Value} (h : VR ν (.agg cs) v') : ∃ cs', v' = .agg cs' ∧ L2 (VR1 ν) cs.toList cs'.toList := h
theorem part_ok {t : TypeId} {cs cs' : Array Value} {off : Nat} {ν : Nu} (h : L2 (VR1 ν) cs.toList cs'.toList) {u : Value} (w : World) :
    (aggT P t = some true → ∀ n, sz P t = some n → ∃ v', (part t cs' off).run P w = .ok v' w ∧ VR ν (.agg (cs.extract off (off + n))) v') ∧
    (aggT P t = some false → off < cs.size → ∃ v', (part t cs' off).run P w = .ok v' w ∧ VR ν (cs.toList.getD off undef) v') := by
  refine ⟨fun hg n hn => ⟨.agg (cs'.extract off (off + n)), ?_, ⟨_, rfl, ?_⟩⟩, fun hg hlt => ?_⟩
  · simp [part, run_aggT hg, run_sz hn]
  · rw [Array.toList_extract, Array.toList_extract]
    unfold List.extract
    exact (h.drop off).take _
  · have hx : cs.toList[off]? = some (cs.toList.getD off undef) := by rw [List.getD_eq_getElem?_getD, List.getElem?_eq_getElem (by simpa using hlt)]; rfl
    obtain ⟨v', hv', hr⟩ := h.get off _ hx
    refine ⟨v', ?_, VR.of1 hr⟩
    have : cs'[off]? = some v' := by simpa using hv'
    simp [part, run_aggT hg, this]
theorem part_sat {t : TypeId} {cs : Array Value} {off : Nat} (hk : ∀ u, (∀ ν (a : Act) w, Env ν fr a o → ∀ cs', L2 (VR1 ν) cs.toList cs'.toList → ∃ v', (part t cs' off).run P w = .ok v' w ∧ VR ν u v') → OpOk P F fr hp o ⟨u, hp, []⟩) :
    Sat ((partA P t cs off).map fun v => (⟨v, hp, []⟩ : Res)) (OpOk P F fr hp o) := by
  apply Sat.map
  unfold partA
  refine Sat.bind_lift fun g hg => ?_
  cases g with
  | true =>
    rw [if_pos rfl]
    exact Sat.bind_lift fun n hn => Sat.bind_chk fun _ => Sat.ret _ (hk _ fun ν a w _ cs' h => (part_ok h (u := undef) w).1 hg n hn)
  | false =>
    rw [if_neg Bool.false_ne_true]
    refine Sat.bind_chk fun hlt => Sat.asT.mono fun u hu => ?_
    subst hu
    exact hk _ fun ν a w _ cs' h => (part_ok h (u := undef) w).2 hg (by simpa using hlt)
theorem fieldv_sat {t : TypeId} {x : Operand} {f : Nat} (ho : o.op = .field t x f) : Sat ((lift (val fr x)).bind fun v => match v, P.underlying t with
      | .agg cs, some (.struct fs) => (lift (fs[f]?)).bind fun g => (partA P g.type cs g.offset).map fun v => (⟨v, hp, []⟩ : Res)
      | _, _ => stop) (OpOk P F fr hp o) := by
  refine Sat.bind_lift fun v hv => ?_
  split
  · rename_i cs fs hd
    refine Sat.bind_lift fun g hg => part_sat fun u hu => OpOk.pure fun ν a w he _ => ?_
    obtain ⟨cs', h1, h2⟩ := VRC.agg (he x (by simp [ho, Op.operands]) _ hv)
    obtain ⟨v', h3, h4⟩ := hu ν a w he cs' h2
    exact ⟨v', by simp [execOp, ho, h1, Instr.field, run_und hd, hg, asAgg, h3], h4⟩
  · exact Sat.stop
theorem indexv_sat {t : TypeId} {x i : Operand} (ho : o.op = .index t x i) : Sat ((lift (val fr x)).bind fun v => (lift (val fr i)).bind fun i => match P.underlying t, v, i with
      | some (.array len e), .agg cs, .int _ i => (lift (sz P e)).bind fun n => (chk (inside i len)).bind fun _ => (partA P e cs (i.toNat * n)).map fun v => (⟨v, hp, []⟩ : Res)
      | some .string, .string s, .int _ i => (chk (inside i s.size)).bind fun _ => ret (⟨.int .u8 ((s.data.toList.getD i.toNat 0).toNat : Nat), hp, []⟩ : Res)
      | _, _, _ => stop) (OpOk P F fr hp o) := by
  refine Sat.bind_lift fun v hv => Sat.bind_lift fun iv hi => ?_
  split
  · rename_i len e cs k i0 hd
    refine Sat.bind_lift fun n hn => Sat.bind_chk fun hin => part_sat fun u hu => OpOk.pure fun ν a w he _ => ?_
    obtain ⟨cs', h1, h2⟩ := VRC.agg (he x (by simp [ho, Op.operands]) _ hv)
    have h3 : a.eval i = .int k i0 := he i (by simp [ho, Op.operands]) _ hi
    obtain ⟨v', h4, h5⟩ := hu ν a w he cs' h2
    simp only [inside, Bool.and_eq_true, decide_eq_true_eq] at hin
    exact ⟨v', by simp [execOp, ho, h1, h3, Instr.index, asIntOf, run_und hd, hin.1, hin.2, run_sz hn, h4], h5⟩
  · rename_i s k i0 hd
    refine Sat.bind_chk fun hin => Sat.ret _ (OpOk.pure fun ν a w he _ => ?_)
    have h1 : a.eval x = .string s := he x (by simp [ho, Op.operands]) _ hv
    have h3 : a.eval i = .int k i0 := he i (by simp [ho, Op.operands]) _ hi
    simp only [inside, Bool.and_eq_true, decide_eq_true_eq] at hin
    have hlt : i0.toNat < s.size := by omega
    have hb : s[i0.toNat]? = some (s[i0.toNat]'hlt) := by simp [hlt]
    have hbe : (s[i0.toNat]'hlt) = s.data.toList.getD i0.toNat 0 := by
      rw [List.getD_eq_getElem?_getD, List.getElem?_eq_getElem (by simpa using hlt)]
      rfl
    refine ⟨.int .u8 ((s.data.toList.getD i0.toNat 0).toNat : Nat), ?_, rfl⟩
    simp only [execOp, ho, h1, h3, Instr.index, asIntOf, Sem.run_bind, Sem.run_pure, Result.andThen_ok, run_und hd, if_pos hin.1, hb, hbe]
  · exact Sat.stop
end
end Go.Proofs.Ytgbncncmoiadaaa.Ex
/- What one operation does: cuts, parts put together, conversions, tests. -/
namespace Go.Proofs.Ytgbncncmoiadaaa.Ex
open Go
set_option linter.unusedVariables false
set_option linter.unusedSimpArgs false
section
variable {P : Program} {F : List Nat} {fr : Fr} {hp : Hp} {o : Oper}
theorem bound_run {k : IntKind} {i : Int} {y : Nat} (h0 : 0 ≤ i) (h1 : i ≤ (y : Int)) (c : BoundsCode) (w : World) : (Instr.sliceBound (.int k i) y c).run P w = .ok i.toNat w := by
  simp [Instr.sliceBound, asIntOf, h0, h1]
/-- The bounds of a cut. -/
theorem bounds_run {isS : Bool} {len cap' : Nat} {lo hi : Option Value} {h l : Nat}
    (hh : (hi = none ∧ h = len) ∨ ∃ k i, hi = some (.int k i) ∧ 0 ≤ i ∧ i ≤ (cap' : Int) ∧ h = i.toNat)
    (hl : (lo = none ∧ l = 0) ∨ ∃ k i, lo = some (.int k i) ∧ 0 ≤ i ∧ i ≤ (h : Int) ∧ l = i.toNat) (w : World) :
    (Instr.sliceBounds isS len cap' lo hi none).run P w = .ok (l, h, cap') w := by
  rcases hh with ⟨rfl, rfl⟩ | ⟨k, i, rfl, h0, h1, rfl⟩
  · rcases hl with ⟨rfl, rfl⟩ | ⟨k, i, rfl, h2, h3, rfl⟩
    · simp [Instr.sliceBounds]
    · simp [Instr.sliceBounds, bound_run h2 h3]
  · rcases hl with ⟨rfl, rfl⟩ | ⟨k', i', rfl, h2, h3, rfl⟩
    · simp [Instr.sliceBounds, bound_run h0 h1]
    · simp [Instr.sliceBounds, bound_run h0 h1, bound_run h2 h3]
theorem Sat.bound {y d : Nat} {x : Option Value} {β : Type} {f : Nat → M β} {S : β → Prop}
    (h : ∀ n, ((x = none ∧ n = d) ∨ ∃ k i, x = some (.int k i) ∧ 0 ≤ i ∧ i ≤ (y : Int) ∧ n = i.toNat) → Sat (f n) S) : Sat ((boundA y d x).bind f) S := by
  refine Sat.bind (R := fun n => (x = none ∧ n = d) ∨ ∃ k i, x = some (.int k i) ∧ 0 ≤ i ∧ i ≤ (y : Int) ∧ n = i.toNat) ?_ h
  unfold boundA
  split
  · exact Sat.ret _ (.inl ⟨rfl, rfl⟩)
  · rename_i k i
    refine Sat.bind_chk fun hc => Sat.ret _ (.inr ⟨k, i, rfl, ?_, ?_, rfl⟩)
    · simp only [upto, Bool.and_eq_true, decide_eq_true_eq] at hc; exact hc.1
    · simp only [upto, Bool.and_eq_true, decide_eq_true_eq] at hc; exact hc.2
  · exact Sat.stop
theorem opt_eval {ν : Nu} {a : Act} {x : Option Operand} {v : Option Value} (h : optV fr x = some v) (he : ∀ y, x = some y → ∀ u, val fr y = some u → VR ν u (a.eval y)) :
    ((v = none ∧ x.map a.eval = none) ∨ ∃ u u', v = some u ∧ x.map a.eval = some u' ∧ VR ν u u') := by
  cases x with
  | none => cases h; exact .inl ⟨rfl, rfl⟩
  | some y =>
    simp only [optV] at h
    cases hy : val fr y with
    | none => rw [hy] at h; cases h
    | some u => rw [hy] at h; cases h; exact .inr ⟨u, _, rfl, rfl, he y rfl u hy⟩
theorem bnd_same {ν : Nu} {v v' : Option Value} (h : (v = none ∧ v' = none) ∨ ∃ u u', v = some u ∧ v' = some u' ∧ VR ν u u') {n d : Nat} {y : Nat}
    (hb : (v = none ∧ n = d) ∨ ∃ k i, v = some (.int k i) ∧ 0 ≤ i ∧ i ≤ (y : Int) ∧ n = i.toNat) {y' : Nat} (hy : y ≤ y') :
    (v' = none ∧ n = d) ∨ ∃ k i, v' = some (.int k i) ∧ 0 ≤ i ∧ i ≤ (y' : Int) ∧ n = i.toNat := by
  rcases hb with ⟨rfl, rfl⟩ | ⟨k, i, rfl, h0, h1, rfl⟩
  · rcases h with ⟨_, rfl⟩ | ⟨u, u', hh, _⟩
    · exact .inl ⟨rfl, rfl⟩
    · cases hh
  · rcases h with ⟨hh, _⟩ | ⟨u, u', hh, rfl, hv⟩
    · cases hh
    · cases hh
      rw [VR.int hv]
      exact .inr ⟨k, i, rfl, h0, by omega, rfl⟩
theorem cut_sat {t : TypeId} {x : Operand} {lo hi : Option Operand} (ho : o.op = .slice t x lo hi none) (hF : ∀ v, val fr x = some v → ∀ id, id ∈ idsV v → id ∈ F) :
    Sat ((lift (val fr x)).bind fun v => (lift (optV fr lo)).bind fun lo => (lift (optV fr hi)).bind fun hi => (cutA P hp t v lo hi).map fun v => (⟨v, hp, []⟩ : Res)) (OpOk P F fr hp o) := by
  refine Sat.bind_lift fun v hv => Sat.bind_lift fun lv hlo => Sat.bind_lift fun hv2 hhi => Sat.map ?_
  have eL : ∀ ν (a : Act), Env ν fr a o → ((lv = none ∧ lo.map a.eval = none) ∨ ∃ u u', lv = some u ∧ lo.map a.eval = some u' ∧ VR ν u u') := fun ν a he => opt_eval hlo fun y hy u hu => he y (by simp [ho, Op.operands, hy]) u hu
  have eH : ∀ ν (a : Act), Env ν fr a o → ((hv2 = none ∧ hi.map a.eval = none) ∨ ∃ u u', hv2 = some u ∧ hi.map a.eval = some u' ∧ VR ν u u') := fun ν a he => opt_eval hhi fun y hy u hu => he y (by simp [ho, Op.operands, hy]) u hu
  unfold cutA
  split
  · rename_i s hd
    refine Sat.bound fun h hh => Sat.bound fun l hl => Sat.ret _ (OpOk.pure fun ν a w he _ => ⟨_, ?_, rfl⟩)
    have h1 : a.eval x = .string s := he x (by simp [ho, Op.operands]) _ hv
    have b := bounds_run (P := P) (isS := false) (len := s.size) (cap' := s.size) (bnd_same (eH ν a he) hh (Nat.le_refl _)) (bnd_same (eL ν a he) hl (Nat.le_refl _)) w
    simp [execOp, ho, h1, Instr.sliceAt, run_und hd, Instr.slice, b]
  · rename_i e b off len cap hd
    refine Sat.bound fun h hh => Sat.bound fun l hl => Sat.bind_lift fun n hn => Sat.bind_lift fun u hu => Sat.bind_chk fun hun => Sat.ret _ (OpOk.pure fun ν a w he hpre => ?_)
    obtain ⟨a', cap', h1, h2, h3, h4⟩ := he x (by simp [ho, Op.operands]) _ hv
    have bd := bounds_run (P := P) (isS := true) (len := len) (cap' := cap') (bnd_same (eH ν a he) hh h2) (bnd_same (eL ν a he) hl (Nat.le_refl _)) w
    refine ⟨.slice (some (if cap' = l then a' else a'.add (l * n))) (h - l) (cap' - l), ?_, ⟨_, _, rfl, ?_, ?_, ?_⟩⟩
    · simp only [execOp, ho, h1, Instr.sliceAt, Instr.slice, Sem.run_bind, run_und hd, Result.andThen_ok, Option.map_none, bd, run_sz hn, Sem.run_pure]
      split <;> rfl
    · omega
    · have : h ≤ cap' := by
        rcases hh with ⟨_, rfl⟩ | ⟨k, i, _, h0, h5, rfl⟩ <;> omega
      omega
    · intro hpos
      have hl' : l ≤ cap' := by omega
      obtain ⟨N, k1, k2, k3, k4⟩ := h4 (by omega)
      refine ⟨N, k1, rfl, ?_, ?_⟩
      · rw [if_neg (by omega), k3, at_add]
      · have hu2 : N.u = n := by
          have hb := hpre.blk b (hF _ hv b (by simp [idsV, idsVC, idsV1]))
          simp only [beq_iff_eq] at hun
          unfold unit at hu
          split at hu
          · rename_i e' cs' he'
            rw [he'] at hb
            obtain ⟨g, cur, lo', hi', m1, _⟩ := hb
            change ν b = some N at k1
            rw [k1] at m1
            cases m1
            rw [← hun, hu]
            rfl
          · rename_i e' cs' he'
            rw [he'] at hb
            obtain ⟨N', m1, m2, _⟩ := hb
            change ν b = some N at k1
            rw [k1] at m1
            cases m1
            rw [m2, ← hun, hu]
            rfl
          · cases hu
        show off + l * n + (cap' - l) * N.u = N.S
        rw [hu2] at k4 ⊢
        change off + cap' * n = N.S at k4
        rw [Nat.add_assoc, ← Nat.add_mul, show l + (cap' - l) = cap' by omega]
        exact k4
  · rename_i e hd
    refine Sat.bound fun h hh => Sat.bound fun l hl => Sat.bind_lift fun n hn => Sat.ret _ (OpOk.pure fun ν a w he _ => ⟨.slice none 0 0, ?_, rfl⟩)
    have h1 : a.eval x = .slice none 0 0 := he x (by simp [ho, Op.operands]) _ hv
    have hh0 : h = 0 := by rcases hh with ⟨_, rfl⟩ | ⟨k, i, _, h0, h5, rfl⟩ <;> omega
    subst hh0
    have hl0 : l = 0 := by rcases hl with ⟨_, rfl⟩ | ⟨k, i, _, h0, h5, rfl⟩ <;> omega
    subst hl0
    have bd := bounds_run (P := P) (isS := true) (len := 0) (cap' := 0) (bnd_same (eH ν a he) hh (Nat.le_refl _)) (bnd_same (eL ν a he) hl (Nat.le_refl _)) w
    simp [execOp, ho, h1, Instr.sliceAt, Instr.slice, run_und hd, bd, run_sz hn]
  · exact Sat.stop
theorem extract_sat {x : Operand} {i : Nat} (ho : o.op = .extract x i) : Sat ((lift (val fr x)).bind fun v => match v with | .tuple vs => (lift (vs[i]?)).map fun v => (⟨v, hp, []⟩ : Res) | _ => stop) (OpOk P F fr hp o) := by
  refine Sat.bind_lift fun v hv => ?_
  split
  · rename_i vs
    refine Sat.map (Sat.lift fun u hu => OpOk.pure fun ν a w he _ => ?_)
    obtain ⟨cs', h1, h2⟩ := (he x (by simp [ho, Op.operands]) _ hv : VR ν (.tuple vs) _)
    obtain ⟨v', h3, h4⟩ := h2.get i u (by simpa using hu)
    refine ⟨v', ?_, VR.ofC h4⟩
    have : cs'[i]? = some v' := by simpa using h3
    simp [execOp, ho, h1, Instr.extract, this]
  · exact Sat.stop
theorem L2_VR1_of_VR0 {ν : Nu} {l m : List Value} (h : L2 (VR0 ν) l m) : L2 (VR1 ν) l m := h.mono fun a b hab => by
  cases a with
  | func fn f c => simp [VR0] at hab
  | _ => simp only [VR1]; exact hab
theorem VR.lvl0 {ν : Nu} {v v' : Value} (h : VR ν v v') (hl : lvl0 v = true) : VR0 ν v v' := by
  cases v with
  | agg cs => cases hl
  | tuple cs => cases hl
  | func fn f c => cases hl
  | _ => simp only [VR, VRC, VR1] at h; exact h
theorem L2.lvl0 {ν : Nu} {l m : List Value} (h : L2 (VR ν) l m) (hl : l.all Ex.lvl0 = true) : L2 (VR0 ν) l m := by
  induction h with
  | nil => exact .nil
  | cons h _ ih =>
    simp only [List.all_cons, Bool.and_eq_true] at hl
    exact .cons (h.lvl0 hl.1) (ih hl.2)
theorem func_sat {fn : Fn} {f c : Array Operand} (ho : o.op = .makeFunc fn f c) : Sat ((lift (vals fr f.toList)).bind fun f => (lift (vals fr c.toList)).bind fun c => (chk (f.all lvl0 && c.all lvl0)).bind fun _ => ret (⟨.func fn f.toArray c.toArray, hp, []⟩ : Res)) (OpOk P F fr hp o) := by
  refine Sat.bind_lift fun fv hf => Sat.bind_lift fun cv hc => Sat.bind_chk fun hl => Sat.ret _ (OpOk.pure fun ν a w he _ => ?_)
  simp only [Bool.and_eq_true] at hl
  have h1 := (vals_L2 (ν := ν) (a := a) hf fun x hx v hv => he x (by simp [ho, Op.operands]; exact .inl (by simpa using hx)) v hv).lvl0 hl.1
  have h2 := (vals_L2 (ν := ν) (a := a) hc fun x hx v hv => he x (by simp [ho, Op.operands]; exact .inr (by simpa using hx)) v hv).lvl0 hl.2
  refine ⟨.func fn (f.map a.eval) (c.map a.eval), by simp [execOp, ho, Instr.makeFunc], ⟨_, _, rfl, by simpa using h1, by simpa using h2⟩⟩
theorem put_L2 {R : Value → Value → Prop} : ∀ {vs vs' : List Value} {cs cs' : List Value} (o : Nat), L2 R vs vs' → L2 R cs cs' → L2 R (put cs o vs) (put cs' o vs')
  | _, _, _, _, _, .nil, h => h
  | _, _, _, _, o, .cons h1 h2, h => put_L2 (o + 1) h2 (h.set o h1)
theorem fold_put : ∀ (vs : List Value) (s off : Nat) (cells : Array Value), (((vs.zipIdx s).foldl (fun cs x => cs.setIfInBounds (off + x.2) x.1) cells)).toList = put cells.toList (off + s) vs
  | [], _, _, _ => rfl
  | v :: vs, s, off, cells => by
    rw [List.zipIdx_cons, List.foldl_cons, fold_put vs (s + 1) off, put]
    simp [Nat.add_assoc]
theorem fill_ok {ν : Nu} {pl : Nat → Option (Nat × Nat)} : ∀ {ps ps' : List (Nat × Value)} {cs cs' : List Value}, L2 (fun p q => p.1 = q.1 ∧ VRC ν p.2 q.2) ps ps' → L2 (VR1 ν) cs cs' →
    Sat (fillA pl cs ps) fun r => ∃ r', Instr.fill pl cs'.toArray ps' = some r' ∧ L2 (VR1 ν) r r'.toList
  | _, _, _, _, .nil, h => by
    unfold fillA
    exact Sat.ret _ ⟨_, rfl, by simpa using h⟩
  | (i, v) :: ps, (j, v') :: ps', cs, cs', .cons h1 h2, h => by
    obtain ⟨rfl, hv⟩ := h1
    unfold fillA
    refine Sat.bind_lift fun p hp' => Sat.bind_chk fun hc => ?_
    simp only [Bool.and_eq_true, beq_iff_eq, decide_eq_true_eq] at hc
    have hvc := hv.cells
    have hn : put cs p.1 v.cells.toList = put cs p.1 v.cells.toList := rfl
    refine (fill_ok (ν := ν) (pl := pl) h2 (put_L2 p.1 hvc h)).mono fun r hr => ?_
    obtain ⟨r', h3, h4⟩ := hr
    refine ⟨r', ?_, h4⟩
    have hs : v'.cells.size = v.cells.size := by have := hvc.len; simpa using this.symm
    have hl := h.len
    unfold Instr.fill
    rw [hp']
    simp only
    rw [if_neg (by simp; omega)]
    have e := fold_put v'.cells.toList 0 p.1 cs'.toArray
    rw [← h3]
    congr 1
    rw [← Array.foldl_toList, Array.toList_zipIdx]
    apply Array.toList_inj.1
    simpa using e
theorem parts_ok {ν : Nu} {a : Act} : ∀ {ps : List (Nat × Operand)} {vs : List (Nat × Value)}, parts fr ps = some vs → (∀ x, x ∈ ps.map (·.2) → ∀ v, val fr x = some v → VR ν v (a.eval x)) → vs.all (fun p => lvlC p.2) = true →
    L2 (fun p q => p.1 = q.1 ∧ VRC ν p.2 q.2) vs (ps.map fun p => (p.1, a.eval p.2))
  | [], _, h, _, _ => by cases h; exact .nil
  | (i, x) :: r, vs, h, he, hl => by
    simp only [parts] at h
    cases hx : val fr x with
    | none => rw [hx] at h; cases h
    | some v =>
      rw [hx] at h
      change (parts fr r).bind (fun vs => some ((i, v) :: vs)) = some vs at h
      cases hr : parts fr r with
      | none => rw [hr] at h; cases h
      | some us =>
        rw [hr] at h
        cases h
        simp only [List.all_cons, Bool.and_eq_true] at hl
        refine .cons ⟨rfl, ?_⟩ (parts_ok hr (fun y hy => he y (List.mem_cons_of_mem _ hy)) hl.2)
        have hv := he x (List.mem_cons_self ..) v hx
        cases v with
        | tuple cs => cases hl.1
        | _ => simp only [VR] at hv; exact hv
end
end Go.Proofs.Ytgbncncmoiadaaa.Ex
/- Structs and arrays that are held against each other. -/
namespace Go.Proofs.Ytgbncncmoiadaaa.Ex
open Go
set_option linter.unusedVariables false
set_option linter.unusedSimpArgs false
section
variable {P : Program}
theorem partV_run {t : TypeId} {cs : Array Value} {off : Nat} {u : Value} (h : partV P t cs off = some u) (w : World) : (part t cs off).run P w = .ok u w := by
  unfold partV at h
  cases hg : aggT P t with
  | none => rw [hg] at h; cases h
  | some g =>
    rw [hg] at h
    simp only [Option.bind_some] at h
    cases g with
    | true =>
      rw [if_pos rfl] at h
      cases hn : sz P t with
      | none => rw [hn] at h; cases h
      | some n =>
        rw [hn] at h
        simp only [Option.bind_some] at h
        split at h
        · cases h
          simp [part, run_aggT hg, run_sz hn]
        · cases h
    | false =>
      rw [if_neg Bool.false_ne_true] at h
      have : cs[off]? = some u := by simpa using h
      simp [part, run_aggT hg, this]
theorem loop_run {α : Type} {W : World} (body : α → Option Bool × Unit → Sem (ForInStep (Option Bool × Unit))) (c : α → Bool) : ∀ (l : List α),
    (∀ x, x ∈ l → ∀ s, (body x s).run P W = .ok (if c x = true then .yield (none, ()) else .done (some false, ())) W) →
    (forIn l ((none, ()) : Option Bool × Unit) body).run P W = .ok (if l.all c = true then (none, ()) else (some false, ())) W
  | [], _ => rfl
  | x :: l, h => by
    have hx := h x List.mem_cons_self (none, ())
    simp only [List.forIn_cons, Sem.run_bind, hx, Result.andThen_ok]
    cases hc : c x with
    | true =>
      simp only [if_true, List.all_cons, hc, Bool.true_and]
      exact loop_run body c l fun y hy s => h y (List.mem_cons_of_mem _ hy) s
    | false =>
      simp [hc]
theorem eqAll_spec {α : Type} {f : α → Option Bool} : ∀ {l : List α} {b : Bool}, eqAll f l = some b → ∃ c : α → Bool, (∀ x, x ∈ l → f x = some (c x)) ∧ b = l.all c := by
  intro l b h
  refine ⟨fun x => (f x).getD false, ?_, ?_⟩
  · induction l generalizing b with
    | nil => intro x hx; cases hx
    | cons y l ih =>
      simp only [eqAll] at h
      cases hy : f y with
      | none => rw [hy] at h; cases h
      | some d =>
        rw [hy] at h
        simp only [Option.bind_some] at h
        cases hl : eqAll f l with
        | none => rw [hl] at h; cases h
        | some e =>
          intro x hx
          rcases List.mem_cons.1 hx with rfl | hx
          · show f x = some ((f x).getD false)
            rw [hy]; rfl
          · exact ih hl x hx
  · induction l generalizing b with
    | nil => simp only [eqAll, Option.some.injEq] at h; rw [← h]; rfl
    | cons y l ih =>
      simp only [eqAll] at h
      cases hy : f y with
      | none => rw [hy] at h; cases h
      | some d =>
        rw [hy] at h
        simp only [Option.bind_some] at h
        cases hl : eqAll f l with
        | none => rw [hl] at h; cases h
        | some e =>
          rw [hl] at h
          simp only [Option.map_some, Option.some.injEq] at h
          rw [← h, List.all_cons, hy, ← ih hl]
          rfl
theorem eqA_run : ∀ (d : Nat) {t : TypeId} {x y : Value} {b : Bool}, eqA P d t x y = some b → ∀ (D : Nat), d ≤ D → ∀ w : World, (Op.equalIn D t x y).run P w = .ok b w
  | 0, _, _, _, _, h, _, _, _ => by cases h
  | d + 1, t, x, y, b, h, 0, hD, w => by omega
  | d + 1, t, x, y, b, h, D + 1, hD, w => by
    have ih := fun {t : TypeId} {x y : Value} {b : Bool} (h : eqA P d t x y = some b) (w : World) => eqA_run d h D (by omega) w
    unfold eqA at h
    split at h
    · rename_i hu
      cases h
      rw [Op.equalIn]
      simp only [Sem.run_bind, run_und hu, Result.andThen_ok, Sem.run_pure]
    · rename_i hu
      split at h
      · rename_i hk
        cases h
        rw [Op.equalIn]
        simp only [Sem.run_bind, run_und hu, Result.andThen_ok, Sem.run_pure, hk, if_true]
      · cases h
    · rename_i hu
      cases h
      rw [Op.equalIn]
      simp only [Sem.run_bind, run_und hu, Result.andThen_ok, Sem.run_pure]
    · rename_i fs xs ys hu
      split at h
      · cases h
      · rename_i hst
        obtain ⟨c, h1, rfl⟩ := eqAll_spec h
        have hp : ∀ w : World, (program : Sem Program).run P w = .ok P w := fun _ => rfl
        rw [Op.equalIn]
        simp only [Sem.run_bind, run_und hu, Result.andThen_ok, hp, hst, if_false, Bool.false_eq_true]
        rw [← Array.forIn_toList, loop_run _ c fs.toList ?_]
        · simp only [Result.andThen_ok]
          cases fs.toList.all c <;> rfl
        · intro f hf s
          have hf := h1 f hf
          by_cases hn : f.name = "_"
          · rw [if_pos hn] at hf
            have : c f = true := by simpa using hf.symm
            simp [hn, this]
          · rw [if_neg hn] at hf
            cases hx : partV P f.type xs f.offset with
            | none => rw [hx] at hf; cases hf
            | some u =>
              cases hy : partV P f.type ys f.offset with
              | none => rw [hx, hy] at hf; cases hf
              | some v =>
                rw [hx, hy] at hf
                simp only [Option.bind_some] at hf
                have hn' : f.name ≠ "_" := hn
                simp only [hn', ne_eq, not_false_eq_true, if_true, Sem.run_bind, partV_run hx, partV_run hy, Result.andThen_ok, ih hf w]
                cases c f <;> rfl
    · rename_i len e xs ys hu
      cases hn : sz P e with
      | none => rw [hn] at h; cases h
      | some n =>
        rw [hn] at h
        simp only [Option.bind_some] at h
        obtain ⟨c, h1, rfl⟩ := eqAll_spec h
        rw [Op.equalIn]
        simp only [Sem.run_bind, run_und hu, Result.andThen_ok, run_sz hn]
        rw [Std.Legacy.Range.forIn_eq_forIn_range', loop_run _ c _ ?_]
        · simp only [Result.andThen_ok, Std.Legacy.Range.size, Nat.sub_zero, Nat.add_sub_cancel, Nat.div_one, List.range_eq_range']
          cases (List.range' 0 len 1).all c <;> rfl
        · intro i hi s
          have hi : i ∈ List.range len := by simpa [List.range_eq_range', Std.Legacy.Range.size] using hi
          have hf := h1 i hi
          cases hx : partV P e xs (i * n) with
          | none => rw [hx] at hf; cases hf
          | some u =>
            cases hy : partV P e ys (i * n) with
            | none => rw [hx, hy] at hf; cases hf
            | some v =>
              rw [hx, hy] at hf
              simp only [Option.bind_some] at hf
              simp only [Sem.run_bind, partV_run hx, partV_run hy, Result.andThen_ok, ih hf w]
              cases c i <;> rfl
    · cases h
theorem agg_eq {t : TypeId} {xs ys : Array Value} {b : Bool} (hg : P.eqGuardType P.depth t = false) (h : eqA P 12 t (.agg xs) (.agg ys) = some b) (W : World) :
    (binOp .eql t (.agg xs) (.agg ys)).run P W = .ok (.bool b) W ∧ (binOp .neq t (.agg xs) (.agg ys)).run P W = .ok (.bool (!b)) W ∧ ∀ op x y, (eqGuard op t x y (.agg xs) (.agg ys)).run P W = .ok () W := by
  have h1 : (Op.equal t (.agg xs) (.agg ys)).run P W = .ok b W := by
    unfold Op.equal
    exact eqA_run 12 h _ (by decide) W
  have e1 : binOp .eql t (.agg xs) (.agg ys) = (do pure (.bool (← Op.equal t (.agg xs) (.agg ys)))) := rfl
  have e2 : binOp .neq t (.agg xs) (.agg ys) = (do pure (.bool (!(← Op.equal t (.agg xs) (.agg ys))))) := rfl
  refine ⟨?_, ?_, fun op x y => ?_⟩
  · rw [e1]; simp only [Sem.run_bind, h1, Result.andThen_ok, Sem.run_pure]
  · rw [e2]; simp only [Sem.run_bind, h1, Result.andThen_ok, Sem.run_pure]
  · have hp : ∀ w : World, (program : Sem Program).run P w = .ok P w := fun _ => rfl
    cases op with
    | eql => simp [eqGuard, hp, hg]
    | neq => simp [eqGuard, hp, hg]
    | _ => simp [eqGuard]
end
end Go.Proofs.Ytgbncncmoiadaaa.Ex
/- What one operation does: structs put together, conversions, tests of two values. -/
namespace Go.Proofs.Ytgbncncmoiadaaa.Ex
open Go
set_option linter.unusedVariables false
set_option linter.unusedSimpArgs false
section
variable {P : Program} {F : List Nat} {fr : Fr} {hp : Hp} {o : Oper}
theorem bind_pure_map {α β : Type} (x : Sem α) (f : α → β) : (do pure (f (← x)) : Sem β) = f <$> x := rfl
theorem mapM_places {fs : Array Field} (h : ∀ f, f ∈ fs.toList → (sz P f.type).isSome = true) (w : World) :
    (fs.mapM (fun (f : Field) => do pure (f.offset, ← sizeOf f.type)) : Sem (Array (Nat × Nat))).run P w = .ok (fs.map fun f => (f.offset, (sz P f.type).getD 0)) w := by
  have key : ∀ (l : List Field), (∀ f, f ∈ l → (sz P f.type).isSome = true) → (l.mapM (fun (f : Field) => do pure (f.offset, ← sizeOf f.type)) : Sem (List (Nat × Nat))).run P w = .ok (l.map fun f => (f.offset, (sz P f.type).getD 0)) w := by
    intro l
    induction l with
    | nil => intro _; rfl
    | cons f l ih =>
      intro h
      obtain ⟨n, hn⟩ := Option.isSome_iff_exists.1 (h f (List.mem_cons_self ..))
      have i := ih fun g hg => h g (List.mem_cons_of_mem _ hg)
      simp only [List.mapM_cons, Sem.run_bind, run_sz hn, Result.andThen_ok, Sem.run_pure, i, hn, List.map_cons, Option.getD_some]
  have k := key fs.toList h
  rw [Array.mapM_eq_mapM_toList]
  simp only [Sem.run_map, k, Result.andThen_ok]
  congr 1
  apply Array.toList_inj.1
  simp
theorem build_sat {t : TypeId} {ps : Array (Nat × Operand)} (ho : o.op = .build t ps) : Sat ((lift (parts fr ps.toList)).bind fun ps => (chk (ps.all fun p => lvlC p.2)).bind fun _ => (buildA P t ps).map fun v => (⟨v, hp, []⟩ : Res)) (OpOk P F fr hp o) := by
  refine Sat.bind_lift fun vs hvs => Sat.bind_chk fun hlv => Sat.map ?_
  have eP : ∀ ν (a : Act), Env ν fr a o → L2 (fun p q => p.1 = q.1 ∧ VRC ν p.2 q.2) vs (ps.toList.map fun p => (p.1, a.eval p.2)) := fun ν a he =>
    parts_ok hvs (fun x hx v hv => he x (by simp only [ho, Op.operands]; simpa using hx) v hv) hlv
  unfold buildA
  refine Sat.bind_lift fun z hz => Sat.bind_chk fun hfl => ?_
  split
  · rename_i fs hd
    refine Sat.bind_chk fun hsz => Sat.map ?_
    intro o' r he' hg
    refine OpOk.pure fun ν a w he _ => ?_
    obtain ⟨r', h1, h2⟩ := fill_ok (ν := ν) (eP ν a he) ((flat_L2 hfl).2 rfl) o' r he' hg
    refine ⟨.agg r', ?_, ⟨_, rfl, by simpa using h2⟩⟩
    have e1 : (ps.map fun x => (x.1, a.eval x.2)).toList = ps.toList.map fun p => (p.1, a.eval p.2) := by simp
    have e3 : (fun i : Nat => (fs[i]?).map fun f => (f.offset, (sz P f.type).getD 0)) = fun i : Nat => (fs.map fun f => (f.offset, (sz P f.type).getD 0))[i]? := by
      funext i
      simp
    rw [e3] at h1
    have hm := mapM_places (P := P) (fs := fs) (fun f hf => List.all_eq_true.1 hsz f hf) w
    simp only [execOp, ho, Instr.build, Sem.run_bind, run_zeroT hz, Result.andThen_ok, run_und hd, hm, Sem.run_pure, e1]
    have e2 : Instr.fill (fun i : Nat => (fs.map fun f => (f.offset, (sz P f.type).getD 0))[i]?) z.cells (ps.toList.map fun p => (p.1, a.eval p.2)) = some r' := by simpa using h1
    simp only [e2, Sem.run_pure, Result.andThen_ok]
  · rename_i len e hd
    refine Sat.bind_lift fun n hn => Sat.map ?_
    intro o' r he' hg
    refine OpOk.pure fun ν a w he _ => ?_
    obtain ⟨r', h1, h2⟩ := fill_ok (ν := ν) (eP ν a he) ((flat_L2 hfl).2 rfl) o' r he' hg
    refine ⟨.agg r', ?_, ⟨_, rfl, by simpa using h2⟩⟩
    have e1 : (ps.map fun x => (x.1, a.eval x.2)).toList = ps.toList.map fun p => (p.1, a.eval p.2) := by simp
    simp only [execOp, ho, Instr.build, Sem.run_bind, run_zeroT hz, Result.andThen_ok, run_und hd, run_sz hn, Sem.run_pure, e1]
    have e2 : Instr.fill (fun i => some (i * n, n)) z.cells (ps.toList.map fun p => (p.1, a.eval p.2)) = some r' := by simpa using h1
    simp [e2]
  · exact Sat.stop
theorem nil_eq {t : TypeId} {v w v' : Value} {b : Bool} {ν : Nu} (hv : isNilV P t v = some b) (hw : isNilV P t w = some true) (h : VR ν v v') {w' : Value} (h2 : VR ν w w') (W : World) :
    (binOp .eql t v' w').run P W = .ok (.bool b) W ∧ (binOp .neq t v' w').run P W = .ok (.bool (!b)) W ∧ ∀ op x y, (eqGuard op t x y v' w').run P W = .ok () W := by
  have eqn : ∀ {b}, (Op.equal t v' w').run P W = .ok b W → (binOp .eql t v' w' = do pure (.bool (← Op.equal t v' w'))) → (binOp .neq t v' w' = do pure (.bool (!(← Op.equal t v' w')))) → (∀ op x y, (eqGuard op t x y v' w').run P W = .ok () W) →
      (binOp .eql t v' w').run P W = .ok (.bool b) W ∧ (binOp .neq t v' w').run P W = .ok (.bool (!b)) W ∧ ∀ op x y, (eqGuard op t x y v' w').run P W = .ok () W := by
    intro b h1 h2 h3 h4
    rw [h2, h3]
    simp only [Sem.run_bind, h1, Result.andThen_ok, Sem.run_pure]
    exact ⟨trivial, trivial, h4⟩
  have grd : ∀ (p q : Value), (∀ cs, p ≠ .agg cs) → p ≠ .nilIface → ∀ op x y, (eqGuard op t x y p q).run P W = .ok () W := by
    intro p q h1 h2 op x y
    cases p with
    | agg cs => exact absurd rfl (h1 cs)
    | nilIface => exact absurd rfl h2
    | _ => cases op <;> first | rfl | (simp [eqGuard]; done)
  obtain ⟨n, hn⟩ : ∃ n, Op.maxDepth = n + 1 := ⟨9999, rfl⟩
  unfold isNilV at hv hw
  split at hv
  all_goals first | cases hv | skip
  all_goals (rename_i hd; split at hw; all_goals first | cases hw | skip)
  all_goals first | (rename_i hd2; rw [hd] at hd2; first | (cases hd2; done) | cases hd2) | skip
  · cases h; cases h2
    exact eqn (by unfold Op.equal; rw [hn, Op.equalIn]; simp only [Sem.run_bind, run_und hd, Result.andThen_ok]; rfl) rfl rfl (grd _ _ (fun _ h => by cases h) (fun h => by cases h))
  · obtain ⟨N, _, _, rfl⟩ := h; cases h2
    exact eqn (by unfold Op.equal; rw [hn, Op.equalIn]; simp only [Sem.run_bind, run_und hd, Result.andThen_ok]; rfl) rfl rfl (grd _ _ (fun _ h => by cases h) (fun h => by cases h))
  · cases h; cases h2
    exact eqn (by unfold Op.equal; rw [hn, Op.equalIn]; simp only [Sem.run_bind, run_und hd, Result.andThen_ok]; rfl) rfl rfl (grd _ _ (fun _ h => by cases h) (fun h => by cases h))
  · obtain ⟨a', c', rfl, _⟩ := h; cases h2
    exact eqn (by unfold Op.equal; rw [hn, Op.equalIn]; simp only [Sem.run_bind, run_und hd, Result.andThen_ok]; rfl) rfl rfl (grd _ _ (fun _ h => by cases h) (fun h => by cases h))
  · cases h; cases h2
    exact eqn (by unfold Op.equal; rw [hn, Op.equalIn]; simp only [Sem.run_bind, run_und hd, Result.andThen_ok]; rfl) rfl rfl (grd _ _ (fun _ h => by cases h) (fun h => by cases h))
  · obtain ⟨f', c', rfl, _⟩ := h; cases h2
    exact eqn (by unfold Op.equal; rw [hn, Op.equalIn]; simp only [Sem.run_bind, run_und hd, Result.andThen_ok]; rfl) rfl rfl (grd _ _ (fun _ h => by cases h) (fun h => by cases h))
theorem guard_ne {op : BinOp} (h : op ≠ .eql ∧ op ≠ .neq) {t : TypeId} {x y : Operand} {p q : Value} (W : World) : (eqGuard op t x y p q).run P W = .ok () W := by
  cases op with
  | eql => exact absurd rfl h.1
  | neq => exact absurd rfl h.2
  | _ => simp [eqGuard]
theorem bin_sat {op : BinOp} {t : TypeId} {x y : Operand} {yt : TypeId} (ho : o.op = .binOp op t x y yt) :
    Sat ((lift (val fr x)).bind fun v => (lift (val fr y)).bind fun w => (binA P fr o op t v w).map fun v => (⟨v, hp, []⟩ : Res)) (OpOk P F fr hp o) := by
  refine Sat.bind_lift fun v hv => Sat.bind_lift fun w hw => Sat.map ?_
  have ex : ∀ ν (a : Act), Env ν fr a o → VR ν v (a.eval x) ∧ VR ν w (a.eval y) := fun ν a he => ⟨he x (by simp [ho, Op.operands]) _ hv, he y (by simp [ho, Op.operands]) _ hw⟩
  have plain : Sat (lift (plainA P fr o)) fun v => OpOk P F fr hp o ⟨v, hp, []⟩ := Sat.lift fun v hv => OpOk.pure fun ν a w he _ => ⟨v, plain_ok hv he w⟩
  have run2 : ∀ (a : Act) (W : World) (r : Value), (eqGuard op t x y (a.eval x) (a.eval y)).run P W = .ok () W → (binOp op t (a.eval x) (a.eval y)).run P W = .ok r W → (execOp a.eval o).run P W = .ok (.value r) W := by
    intro a W r h1 h2
    simp only [execOp, ho, Sem.run_bind, h1, h2, Result.andThen_ok, Sem.run_pure]
  unfold binA
  split
  · refine Sat.bind_chk fun hc => Sat.ret _ (OpOk.pure fun ν a W he _ => ⟨_, run2 a W _ (guard_ne ⟨by decide, by decide⟩ W) ?_, rfl⟩)
    obtain ⟨e1, e2⟩ := ex ν a he
    rw [VR.int e1, VR.int e2]
    have h0 : ¬ _ < (0 : Int) := Int.not_lt.2 (of_decide_eq_true hc)
    simp only [binOp, Op.shift, if_neg h0, Sem.run_pure]
  · refine Sat.bind_chk fun hc => Sat.ret _ (OpOk.pure fun ν a W he _ => ⟨_, run2 a W _ (guard_ne ⟨by decide, by decide⟩ W) ?_, rfl⟩)
    obtain ⟨e1, e2⟩ := ex ν a he
    rw [VR.int e1, VR.int e2]
    have h0 : ¬ _ < (0 : Int) := Int.not_lt.2 (of_decide_eq_true hc)
    simp only [binOp, Op.shift, if_neg h0, Sem.run_pure]
  · refine Sat.bind_chk fun hc => Sat.ret _ (OpOk.pure fun ν a W he _ => ⟨_, run2 a W _ (guard_ne ⟨by decide, by decide⟩ W) ?_, rfl⟩)
    obtain ⟨e1, e2⟩ := ex ν a he
    simp only [Bool.and_eq_true, beq_iff_eq, decide_eq_true_eq] at hc
    obtain ⟨rfl, h0⟩ := hc
    rw [VR.int e1, VR.int e2]
    simp [binOp, Op.intDiv, h0]
  · refine Sat.bind_chk fun hc => Sat.ret _ (OpOk.pure fun ν a W he _ => ⟨_, run2 a W _ (guard_ne ⟨by decide, by decide⟩ W) ?_, rfl⟩)
    obtain ⟨e1, e2⟩ := ex ν a he
    simp only [Bool.and_eq_true, beq_iff_eq, decide_eq_true_eq] at hc
    obtain ⟨rfl, h0⟩ := hc
    rw [VR.int e1, VR.int e2]
    simp [binOp, Op.intDiv, h0]
  · refine Sat.bind_chk fun hc => Sat.ret _ (OpOk.pure fun ν a W he _ => ⟨_, run2 a W _ (guard_ne ⟨by decide, by decide⟩ W) ?_, rfl⟩)
    obtain ⟨e1, e2⟩ := ex ν a he
    rw [VR.str e1, VR.str e2]
    have hm : IntKind.i64.max = 9223372036854775807 := by decide
    have h0 := of_decide_eq_true hc
    simp only [binOp, Op.stringOp, hm]
    rw [if_neg (by omega)]
    rfl
  · rename_i xs ys
    refine Sat.map ?_
    unfold eqAgg
    refine Sat.bind_chk fun hc => Sat.lift fun b hb => OpOk.pure fun ν a W he _ => ?_
    simp only [Bool.and_eq_true, Bool.not_eq_true'] at hc
    obtain ⟨e1, e2⟩ := ex ν a he
    have q1 := (flat_VR (v := .agg xs) hc.1.1 _).1 e1
    have q2 := (flat_VR (v := .agg ys) hc.1.2 _).1 e2
    have k := agg_eq hc.2 hb W
    rw [← q1, ← q2] at k
    exact ⟨.bool b, run2 a W _ (k.2.2 _ _ _) k.1, rfl⟩
  · rename_i xs ys
    refine Sat.map ?_
    unfold eqAgg
    refine Sat.bind_chk fun hc => Sat.lift fun b hb => OpOk.pure fun ν a W he _ => ?_
    simp only [Bool.and_eq_true, Bool.not_eq_true'] at hc
    obtain ⟨e1, e2⟩ := ex ν a he
    have q1 := (flat_VR (v := .agg xs) hc.1.1 _).1 e1
    have q2 := (flat_VR (v := .agg ys) hc.1.2 _).1 e2
    have k := agg_eq hc.2 hb W
    rw [← q1, ← q2] at k
    exact ⟨.bool !b, run2 a W _ (k.2.2 _ _ _) k.2.1, rfl⟩
  · split
    · rename_i r hr
      exact Sat.ret _ (OpOk.pure fun ν a w he _ => ⟨r, plain_ok hr he w⟩)
    · split
      · rename_i hn
        refine Sat.bind_lift fun b hb => Sat.ret _ (OpOk.pure fun ν a W he _ => ?_)
        obtain ⟨e1, e2⟩ := ex ν a he
        have k := nil_eq (P := P) hb hn e1 e2 W
        exact ⟨.bool b, run2 a W _ (k.2.2 _ _ _) k.1, rfl⟩
      · exact Sat.stop
  · split
    · rename_i r hr
      exact Sat.ret _ (OpOk.pure fun ν a w he _ => ⟨r, plain_ok hr he w⟩)
    · split
      · rename_i hn
        refine Sat.bind_lift fun b hb => Sat.ret _ (OpOk.pure fun ν a W he _ => ?_)
        obtain ⟨e1, e2⟩ := ex ν a he
        have k := nil_eq (P := P) hb hn e1 e2 W
        exact ⟨.bool !b, run2 a W _ (k.2.2 _ _ _) k.2.1, rfl⟩
      · exact Sat.stop
  · exact plain
theorem vals_one {xs : Array Operand} {v : Value} (h : vals fr xs.toList = some [v]) : ∃ x, xs = #[x] ∧ val fr x = some v := by
  obtain ⟨xs⟩ := xs
  match xs, h with
  | [], h => cases h
  | [x], h =>
    simp only [vals] at h
    cases hx : val fr x with
    | none => rw [hx] at h; cases h
    | some u => rw [hx] at h; cases h; exact ⟨x, rfl, hx⟩
  | x :: y :: r, h =>
    simp only [vals] at h
    cases hx : val fr x with
    | none => rw [hx] at h; cases h
    | some u =>
      rw [hx] at h
      cases hy : val fr y with
      | none => rw [hy] at h; cases h
      | some u2 =>
        rw [hy] at h
        cases hr : vals fr r with
        | none => rw [hr] at h; cases h
        | some us => rw [hr] at h; cases h
theorem vals_two {xs : Array Operand} {v w : Value} (h : vals fr xs.toList = some [v, w]) : ∃ x y, xs = #[x, y] ∧ val fr x = some v ∧ val fr y = some w := by
  obtain ⟨xs⟩ := xs
  match xs, h with
  | [], h => cases h
  | [x], h =>
    simp only [vals] at h
    cases hx : val fr x with
    | none => rw [hx] at h; cases h
    | some u => rw [hx] at h; cases h
  | [x, y], h =>
    simp only [vals] at h
    cases hx : val fr x with
    | none => rw [hx] at h; cases h
    | some u =>
      rw [hx] at h
      cases hy : val fr y with
      | none => rw [hy] at h; cases h
      | some u2 => rw [hy] at h; cases h; exact ⟨x, y, rfl, hx, hy⟩
  | x :: y :: z :: r, h =>
    simp only [vals] at h
    cases hx : val fr x with
    | none => rw [hx] at h; cases h
    | some u =>
      rw [hx] at h
      cases hy : val fr y with
      | none => rw [hy] at h; cases h
      | some u2 =>
        rw [hy] at h
        cases hz : val fr z with
        | none => rw [hz] at h; cases h
        | some u3 =>
          rw [hz] at h
          cases hr : vals fr r with
          | none => rw [hr] at h; cases h
          | some us => rw [hr] at h; cases h
theorem len_sat {xs : Array Operand} {ts : Array TypeId} (ho : o.op = .call { callee := .builtin .len, args := xs, argTypes := ts }) :
    Sat ((lift (vals fr xs.toList)).bind fun vs => match vs, (ts[0]?).bind P.underlying with
      | [.slice _ n _], some (.slice _) => ret (⟨.int .i64 n, hp, []⟩ : Res)
      | [.string s], some .string => ret (⟨.int .i64 s.size, hp, []⟩ : Res)
      | [_], some (.array n _) => ret (⟨.int .i64 n, hp, []⟩ : Res)
      | _, _ => stop) (OpOk P F fr hp o) := by
  refine Sat.bind_lift fun vs hvs => ?_
  have tt : ∀ {d}, (ts[0]?).bind P.underlying = some d → ∃ t, ts[0]? = some t ∧ P.underlying t = some d := fun h => by
    cases ht : ts[0]? with
    | none => rw [ht] at h; cases h
    | some t => rw [ht] at h; exact ⟨t, rfl, h⟩
  split
  · rename_i a0 n c e hd
    obtain ⟨t, ht, hd⟩ := tt hd
    refine Sat.ret _ (OpOk.pure fun ν a W he _ => ⟨.int .i64 n, ?_, rfl⟩)
    obtain ⟨x, rfl, hx⟩ := vals_one hvs
    have h1 := he x (by simp [ho, Op.operands, Call.operands]) _ hx
    have h2 : ∃ a' c', a.eval x = .slice a' n c' := by
      cases a0 with
      | some ad => obtain ⟨a', c', h, _⟩ := h1; exact ⟨_, _, h⟩
      | none => cases n <;> cases c <;> simp [VR, VRC, VR1, VR0] at h1; exact ⟨_, _, h1⟩
    obtain ⟨a', c', h2⟩ := h2
    simp [execOp, ho, resolve, invoke, builtin, Builtin.len_, ht, run_und hd, h2, goInt]
  · rename_i s hd
    obtain ⟨t, ht, hd⟩ := tt hd
    refine Sat.ret _ (OpOk.pure fun ν a W he _ => ⟨.int .i64 s.size, ?_, rfl⟩)
    obtain ⟨x, rfl, hx⟩ := vals_one hvs
    have h2 : a.eval x = .string s := he x (by simp [ho, Op.operands, Call.operands]) _ hx
    simp [execOp, ho, resolve, invoke, builtin, Builtin.len_, ht, run_und hd, h2, goInt]
  · rename_i _ _ v0 n e hd
    obtain ⟨t, ht, hd⟩ := tt hd
    refine Sat.ret _ (OpOk.pure fun ν a W he _ => ⟨.int .i64 n, ?_, rfl⟩)
    obtain ⟨x, rfl, hx⟩ := vals_one hvs
    simp [execOp, ho, resolve, invoke, builtin, Builtin.len_, ht, run_und hd, goInt]
  · exact Sat.stop
end
end Go.Proofs.Ytgbncncmoiadaaa.Ex
/- What one operation does: those that make a block or write into one. -/
namespace Go.Proofs.Ytgbncncmoiadaaa.Ex
open Go
set_option linter.unusedVariables false
set_option linter.unusedSimpArgs false
section
variable {P : Program} {F : List Nat} {fr : Fr} {hp : Hp} {o : Oper}
theorem RepBlk.lt {ν : Nu} {w : World} {id : Nat} {b : Blk} (h : RepBlk P ν w id b) (hl : b.live = true) {N : Nm} (hN : ν id = some N) : N.g < w.heap.size := by
  cases b with
  | dead => cases hl
  | own e cs =>
    obtain ⟨g, cur, lo, hi, h1, h2, _⟩ := h
    rw [h1] at hN
    cases hN
    show g < w.heap.size
    rcases Nat.lt_or_ge g w.heap.size with hlt | hge
    · exact hlt
    · rw [Array.getElem?_eq_none hge] at h2; cases h2
  | ro e cs =>
    obtain ⟨N', h1, _, h3, _⟩ := h
    rw [h1] at hN
    cases hN
    exact h3
theorem own_live {b : Blk} (h : b.isOwn = true) : b.live = true := by cases b <;> first | rfl | cases h
/-- A new block's name. -/
def named (ν : Nu) (n : Nat) (N : Nm) : Nu := fun id => if id = n then some N else ν id
theorem named_le {ν : Nu} {n : Nat} {N : Nm} (h : ν n = none) : Le ν (named ν n N) := fun id M hM => by
  unfold named
  split
  · rename_i e; subst e; rw [h] at hM; cases hM
  · exact hM
theorem getD_snoc {b : Blk} (id : Nat) : (hp ++ [b]).getD id .dead = if id < hp.length then hp.getD id .dead else if id = hp.length then b else .dead := by
  simp only [List.getD_eq_getElem?_getD]
  rcases Nat.lt_trichotomy id hp.length with h | h | h
  · rw [if_pos h, List.getElem?_append_left h]
  · subst h
    rw [if_neg (Nat.lt_irrefl _), if_pos rfl, List.getElem?_append_right (Nat.le_refl _)]
    simp
  · rw [if_neg (by omega), if_neg (by omega), List.getElem?_append_right (by omega), List.getElem?_eq_none (by simp; omega)]
    rfl
theorem push_old {w : World} {x : Obj} {g : Nat} (h : g < w.heap.size) : (w.heap.push x)[g]? = w.heap[g]? := by
  rw [Array.getElem?_push, if_neg (by omega)]
theorem push_new {w : World} {x : Obj} : (w.heap.push x)[w.heap.size]? = some x := by simp
theorem Shape.new {v : Value} {b : Blk} : Shape F hp ⟨v, hp ++ [b], []⟩ :=
  ⟨by simp, fun _ h => by simp at h, fun _ h => by simp at h, fun id h _ => by
    show (hp ++ [b]).getD id .dead = _
    rw [getD_snoc, if_pos h]⟩
theorem Post.new {ν : Nu} {w w' : World} {e : TypeId} {cs : List Value} {cur : Array Value} {lo hi : Nat} (h : Pre P F ν hp w) (hw : w'.heap = w.heap.push (.cells cur e (lo, hi)))
    (h1 : w'.os = w.os) (h2 : w'.tape = w.tape) (h3 : w'.output = w.output) (hnf : ∀ o, o < cur.size → ¬ (lo ≤ o ∧ o < hi)) (hl : cs.length ≤ cur.size) (hc : L2 (CR P ν e) cs (cur.toList.take cs.length)) (v : Value) :
    Post P F ν hp w ⟨v, hp ++ [.own e cs], []⟩ (named ν hp.length ⟨w.heap.size, 0, cur.size, (sz P e).getD 0⟩) w' := by
  have le : Le ν (named ν hp.length ⟨w.heap.size, 0, cur.size, (sz P e).getD 0⟩) := named_le (h.dom _ (Nat.le_refl _))
  have hs : w.heap.size ≤ w'.heap.size := by rw [hw]; simp
  have at_new : ∀ id, hp.length ≤ id → id ≠ hp.length → named ν hp.length ⟨w.heap.size, 0, cur.size, (sz P e).getD 0⟩ id = none := fun id hid hne => by
    unfold named
    rw [if_neg hne]
    exact h.dom id hid
  refine ⟨fun id hid => ?_, fun id hid => ?_, fun id hid => ?_, fun i j N K hne hi' hj' ho hlv hN hK => ?_, h1, h2, h3, hs, fun g hg _ => ?_, fun id N hid hlv hN => ?_⟩
  · unfold named
    rw [if_neg (by omega)]
  · exact at_new id (by simp at hid; omega) (by simp at hid; omega)
  · show RepBlk P _ w' id ((hp ++ [Blk.own e cs]).getD id .dead)
    rw [getD_snoc]
    by_cases c1 : id < hp.length
    · rw [if_pos c1]
      have hF : id ∈ F := hid.resolve_right (by omega)
      have hb := h.blk id hF
      exact hb.le le (fun N hN hlive => by rw [hw]; exact push_old (hb.lt hlive hN)) hs
    · rw [if_neg c1]
      by_cases c2 : id = hp.length
      · rw [if_pos c2]
        subst c2
        refine ⟨w.heap.size, cur, lo, hi, by unfold named; rw [if_pos rfl], by rw [hw]; exact push_new, hnf, hl, hc.mono fun _ _ => CR.le le⟩
      · rw [if_neg c2]
        trivial
  · change ((hp ++ [Blk.own e cs]).getD i .dead).isOwn = true at ho
    change ((hp ++ [Blk.own e cs]).getD j .dead).live = true at hlv
    rw [getD_snoc] at ho hlv
    have old : ∀ k M, k < hp.length → (k ∈ F ∨ hp.length ≤ k) → (hp.getD k .dead).live = true → named ν hp.length ⟨w.heap.size, 0, cur.size, (sz P e).getD 0⟩ k = some M → ν k = some M ∧ M.g < w.heap.size ∧ k ∈ F := by
      intro k M hk hkF hkl hM
      unfold named at hM
      rw [if_neg (by omega)] at hM
      have hF := hkF.resolve_right (by omega)
      exact ⟨hM, (h.blk k hF).lt hkl hM, hF⟩
    by_cases ci : i < hp.length
    · rw [if_pos ci] at ho
      obtain ⟨a1, a2, a3⟩ := old i N ci hi' (own_live ho) hN
      by_cases cj : j < hp.length
      · rw [if_pos cj] at hlv
        obtain ⟨b1, b2, b3⟩ := old j K cj hj' hlv hK
        exact h.sep i j N K hne a3 b3 ho hlv a1 b1
      · rw [if_neg cj] at hlv
        split at hlv
        · rename_i ej
          subst ej
          unfold named at hK
          rw [if_pos rfl] at hK
          cases hK
          show N.g ≠ w.heap.size
          omega
        · cases hlv
    · rw [if_neg ci] at ho
      split at ho
      · rename_i ei
        subst ei
        unfold named at hN
        rw [if_pos rfl] at hN
        cases hN
        by_cases cj : j < hp.length
        · rw [if_pos cj] at hlv
          obtain ⟨b1, b2, b3⟩ := old j K cj hj' hlv hK
          show w.heap.size ≠ K.g
          omega
        · rw [if_neg cj, if_neg (fun e => hne e.symm)] at hlv
          cases hlv
      · cases ho
  · rw [hw]
    exact push_old hg
  · change ((hp ++ [Blk.own e cs]).getD id .dead).live = true at hlv
    rw [getD_snoc, if_neg (by omega)] at hlv
    split at hlv
    · rename_i ei
      subst ei
      unfold named at hN
      rw [if_pos rfl] at hN
      cases hN
      exact .inl (Nat.le_refl _)
    · cases hlv
theorem CR.of {ν : Nu} {e : TypeId} {l m : List Value} (h : L2 (VR1 ν) l m) (hf : (!flatT P 6 e || l.all flat1) = true) : L2 (CR P ν e) l m := by
  rcases Bool.or_eq_true _ _ ▸ hf with hf | hf
  · exact h.mono fun a b hab => ⟨hab, fun hh => by rw [hh] at hf; cases hf⟩
  · induction h with
    | nil => exact .nil
    | cons h _ ih =>
      simp only [List.all_cons, Bool.and_eq_true] at hf
      exact .cons ⟨h, fun _ => hf.1⟩ (ih (by simp [hf.2]) hf.2)
theorem newRow_run {w : World} {e : TypeId} {cur : Array Value} : (newRow e cur).run P w = .ok ⟨w.heap.size, 0, none⟩ { w with heap := w.heap.push (.cells cur e) } := by simp [newRow]
/-- A variable of its own. -/
theorem new_ok {e : TypeId} {cs : List Value} (hf : (!flatT P 6 e || cs.all flat1) = true)
    (h : ∀ ν (a : Act) w, Env ν fr a o → Pre P F ν hp w → ∃ cur : Array Value, L2 (VR1 ν) cs cur.toList ∧ (execOp a.eval o).run P w = .ok (.value (.pointer (some ⟨w.heap.size, 0, none⟩))) { w with heap := w.heap.push (.cells cur e) }) :
    OpOk P F fr hp o ⟨.pointer (some ⟨hp.length, 0, none⟩), hp ++ [.own e cs], []⟩ := by
  refine ⟨Shape.new, fun ν a w he hpre next Q hn => ?_⟩
  obtain ⟨cur, h1, h2⟩ := h ν a w he hpre
  have hlen : cs.length = cur.size := by simpa using h1.len
  have htk : cur.toList.take cs.length = cur.toList := List.take_of_length_le (by simp; omega)
  refine wp_value h2 (hn _ _ _ (Post.new (w' := { w with heap := w.heap.push (.cells cur e) }) (cs := cs) (cur := cur) (lo := 0) (hi := 0) hpre rfl rfl rfl rfl (fun o _ hh => by omega) (by omega) (by rw [htk]; exact CR.of h1 hf) _) ?_)
  exact ⟨_, by unfold named; rw [if_pos rfl], rfl, rfl⟩
theorem alloc_sat {e : TypeId} (ho : o.op = .alloc e) : Sat ((lift (zeroT P e)).bind fun z => (chk (z.cells.toList.all flat1)).bind fun _ => newA P hp e z.cells.toList) (OpOk P F fr hp o) := by
  refine Sat.bind_lift fun z hz => Sat.bind_chk fun hz1 => ?_
  unfold newA
  refine Sat.bind_chk fun hf => Sat.ret _ (new_ok hf fun ν a w he _ => ⟨z.cells, (flat_L2 hz1).2 rfl, ?_⟩)
  simp [execOp, ho, Instr.alloc, run_zeroT hz, newVar, newRow_run]
theorem VR.toC {ν : Nu} {v v' : Value} (h : VR ν v v') (hl : lvlC v = true) : VRC ν v v' := by
  cases v with
  | tuple cs => cases hl
  | _ => simp only [VR] at h; exact h
theorem box_sat {e : TypeId} {x : Operand} (ho : o.op = .box e x) : Sat ((lift (val fr x)).bind fun v => (chk (lvlC v)).bind fun _ => newA P hp e v.cells.toList) (OpOk P F fr hp o) := by
  refine Sat.bind_lift fun v hv => Sat.bind_chk fun hl => ?_
  unfold newA
  refine Sat.bind_chk fun hf => Sat.ret _ (new_ok hf fun ν a w he _ => ⟨(a.eval x).cells, ((he x (by simp [ho, Op.operands]) _ hv).toC hl).cells, ?_⟩)
  simp [execOp, ho, Instr.box, newVar, newRow_run]
theorem named_slice {ν : Nu} {n g len cap cap' S u : Nat} (h1 : cap ≤ cap') (h2 : len ≤ cap') (h3 : cap' * u = S) : VR (named ν n ⟨g, 0, S, u⟩) (.slice (some ⟨n, 0, none⟩) len cap) (.slice (some ⟨g, 0, none⟩) len cap') :=
  ⟨_, _, rfl, h1, h2, fun _ => ⟨⟨g, 0, S, u⟩, by unfold named; rw [if_pos rfl], rfl, rfl, by simpa using h3⟩⟩
theorem zeros_eq (z : Array Value) (h0 : 0 < z.size) : ∀ len, ((List.range (len * z.size)).map fun i => z[i % z.size]!) = zeros z.toList len
  | 0 => by simp [zeros]
  | len + 1 => by
    rw [show (len + 1) * z.size = z.size + len * z.size by rw [Nat.add_mul]; omega, List.range_add, List.map_append, zeros, ← zeros_eq z h0 len]
    congr 1
    · apply List.ext_getElem
      · simp
      · intro i h1 h2
        simp at h1
        simp [Nat.mod_eq_of_lt h1, h1]
    · rw [List.map_map]
      apply List.map_congr_left
      intro i _
      simp
theorem zeros_flat {z : List Value} (h : z.all flat1 = true) : ∀ n, (zeros z n).all flat1 = true
  | 0 => rfl
  | n + 1 => by rw [zeros, List.all_append, h, zeros_flat h n]; rfl
theorem zeros_len {z : List Value} : ∀ n, (zeros z n).length = n * z.length
  | 0 => by simp [zeros]
  | n + 1 => by rw [zeros, List.length_append, zeros_len n, Nat.add_mul]; omega
theorem fold_size : ∀ (vs : List (Value × Nat)) (off : Nat) (cells : Array Value), (vs.foldl (fun cs x => cs.setIfInBounds (off + x.2) x.1) cells).size = cells.size
  | [], _, _ => rfl
  | v :: vs, off, cells => by rw [List.foldl_cons, fold_size vs off]; simp
theorem fill_size {pl : Nat → Option (Nat × Nat)} : ∀ {ps : List (Nat × Value)} {cells r : Array Value}, Instr.fill pl cells ps = some r → r.size = cells.size
  | [], cells, r, h => by cases h; rfl
  | (i, v) :: ps, cells, r, h => by
    unfold Instr.fill at h
    split at h
    · cases h
    · split at h
      · cases h
      · rw [fill_size h, ← Array.foldl_toList]
        exact fold_size _ _ _
theorem buildSlice_sat {t : TypeId} {len : Nat} {ps : Array (Nat × Operand)} (ho : o.op = .buildSlice t len ps) :
    Sat ((lift (parts fr ps.toList)).bind fun ps => (chk (ps.all fun p => lvlC p.2)).bind fun _ => buildSliceA P hp t len ps) (OpOk P F fr hp o) := by
  refine Sat.bind_lift fun vs hvs => Sat.bind_chk fun hlv => ?_
  have eP : ∀ ν (a : Act), Env ν fr a o → L2 (fun p q => p.1 = q.1 ∧ VRC ν p.2 q.2) vs (ps.toList.map fun p => (p.1, a.eval p.2)) := fun ν a he =>
    parts_ok hvs (fun x hx v hv => he x (by simp only [ho, Op.operands]; simpa using hx) v hv) hlv
  unfold buildSliceA
  split
  · rename_i e hd
    refine Sat.bind_lift fun n hn => Sat.bind_lift fun z hz => Sat.bind_chk fun hc => ?_
    simp only [Bool.and_eq_true, beq_iff_eq, decide_eq_true_eq] at hc
    obtain ⟨⟨⟨hmx, hzs⟩, h0⟩, hzf⟩ := hc
    intro o' r he' hg
    have key : Sat ((fillA (fun i => some (i * n, n)) (zeros z.cells.toList len) vs).bind fun cs => (chk (!flatT P 6 e || cs.all flat1)).bind fun _ => ret (⟨.slice (some ⟨hp.length, 0, none⟩) len len, hp ++ [.own e cs], []⟩ : Res))
        fun r => ∃ cs, r = ⟨.slice (some ⟨hp.length, 0, none⟩) len len, hp ++ [.own e cs], []⟩ ∧ (!flatT P 6 e || cs.all flat1) = true ∧ ∀ ν (a : Act), Env ν fr a o →
          ∃ r', Instr.fill (fun i => some (i * n, n)) (zeros z.cells.toList len).toArray (ps.toList.map fun p => (p.1, a.eval p.2)) = some r' ∧ L2 (VR1 ν) cs r'.toList := by
      refine Sat.bind (R := fun cs => ∀ ν (a : Act), Env ν fr a o → ∃ r', Instr.fill (fun i => some (i * n, n)) (zeros z.cells.toList len).toArray (ps.toList.map fun p => (p.1, a.eval p.2)) = some r' ∧ L2 (VR1 ν) cs r'.toList) ?_ fun cs hcs => Sat.bind_chk fun hf => Sat.ret _ ⟨cs, rfl, hf, hcs⟩
      intro o1 r1 h1 g1 ν a he
      exact fill_ok (ν := ν) (eP ν a he) ((flat_L2 (zeros_flat hzf len)).2 rfl) o1 r1 h1 g1
    obtain ⟨cs, hr, hf, hfill⟩ := key o' r he' hg
    rw [hr]
    refine ⟨Shape.new, fun ν a w he hpre next Q hnx => ?_⟩
    obtain ⟨cur, h1, h2⟩ := hfill ν a he
    have hcs : cur.size = len * n := by
      rw [fill_size h1]
      simp [zeros_len, hzs]
    have hlen : cs.length = cur.size := by simpa using h2.len
    have htk : cur.toList.take cs.length = cur.toList := List.take_of_length_le (by simp; omega)
    have e1 : (ps.map fun x => (x.1, a.eval x.2)).toList = ps.toList.map fun p => (p.1, a.eval p.2) := by simp
    have hrow : ∀ zr : Array Value, (len * n ≠ 0 → zr = z.cells) → ((Array.range (len * n)).map fun i => zr[i % zr.size]!) = (zeros z.cells.toList len).toArray := by
      intro zr hzr
      apply Array.toList_inj.1
      by_cases c : len * n = 0
      · have : len = 0 := by rcases Nat.mul_eq_zero.1 c with h | h <;> omega
        subst this
        simp [zeros]
      · rw [hzr c]
        have := zeros_eq z.cells (by omega) len
        rw [hzs] at this
        simpa [hzs] using this
    have hrun : (execOp a.eval o).run P w = .ok (.value (.slice (some ⟨w.heap.size, 0, none⟩) len len)) { w with heap := w.heap.push (.cells cur e) } := by
      by_cases c : len * n = 0
      · have hr0 := hrow #[] (fun h => absurd c h)
        simp only [execOp, ho, Instr.buildSlice, Sem.run_bind, run_und hd, Result.andThen_ok, run_sz hn, e1]
        rw [if_neg (by omega), if_pos c]
        simp only [Sem.run_bind, Sem.run_pure, Result.andThen_ok, hr0, h1, newRow_run]
      · have hr0 := hrow z.cells (fun _ => rfl)
        simp only [execOp, ho, Instr.buildSlice, Sem.run_bind, run_und hd, Result.andThen_ok, run_sz hn, e1]
        rw [if_neg (by omega), if_neg c]
        simp only [Sem.run_bind, Sem.run_pure, Result.andThen_ok, run_zeroT hz, hr0, h1, newRow_run]
    refine wp_value hrun (hnx _ _ _ (Post.new (w' := { w with heap := w.heap.push (.cells cur e) }) (cs := cs) (cur := cur) (lo := 0) (hi := 0) hpre rfl rfl rfl rfl (fun o _ hh => by omega) (by omega) (by rw [htk]; exact CR.of h2 hf) _) ?_)
    exact named_slice (Nat.le_refl _) (Nat.le_refl _) (by rw [hn, hcs]; rfl)
  · exact Sat.stop
theorem makeSlice_sat {t : TypeId} {x y : Operand} (ho : o.op = .makeSlice t x y) :
    Sat ((lift (val fr x)).bind fun l => (lift (val fr y)).bind fun c => makeSliceA P hp t l c) (OpOk P F fr hp o) := by
  refine Sat.bind_lift fun lv hl => Sat.bind_lift fun cv hcv => ?_
  unfold makeSliceA
  split
  · rename_i e k l k' c hd
    refine Sat.bind_lift fun i hi => Sat.bind_lift fun z hz => Sat.bind_chk fun hc => ?_
    simp only [Bool.and_eq_true, beq_iff_eq, decide_eq_true_eq, most] at hc
    obtain ⟨⟨⟨⟨⟨⟨h1, h2⟩, h3⟩, h4⟩, hzs⟩, h0⟩, hzf⟩ := hc
    replace h3 : c * (i.bytes : Int) ≤ 140737488351232 := of_decide_eq_true h3
    replace h4 : c ≤ 140737488351232 := of_decide_eq_true h4
    refine Sat.ret _ ⟨Shape.new, fun ν a w he hpre next Q hnx => ?_⟩
    have hs : sz P e = some i.size := by unfold sz; rw [hi]; rfl
    have hzt : zeroT P e = some z := by unfold zeroT; rw [hi]; exact hz
    have ex : a.eval x = .int k l := he x (by simp [ho, Op.operands]) _ hl
    have ey : a.eval y = .int k' c := he y (by simp [ho, Op.operands]) _ hcv
    have wl : IntKind.i64.wrap l = l := by
      have hb : IntKind.i64.bits = 64 := rfl
      have hsg : IntKind.i64.signed = true := rfl
      unfold IntKind.wrap
      rw [hb, hsg]
      simp
      rw [if_neg (by omega)]
      omega
    have wc : IntKind.i64.wrap c = c := by
      have hb : IntKind.i64.bits = 64 := rfl
      have hsg : IntKind.i64.signed = true := rfl
      unfold IntKind.wrap
      rw [hb, hsg]
      simp
      rw [if_neg (by omega)]
      omega
    have hrow : ∀ zr : Array Value, (c.toNat * i.size ≠ 0 → zr = z.cells) → ((Array.range (c.toNat * i.size)).map fun j => zr[j % zr.size]!) = (zeros z.cells.toList c.toNat).toArray := by
      intro zr hzr
      apply Array.toList_inj.1
      by_cases hc0 : c.toNat * i.size = 0
      · have : c.toNat = 0 := by rcases Nat.mul_eq_zero.1 hc0 with h | h <;> omega
        rw [this]
        simp [zeros]
      · rw [hzr hc0]
        have := zeros_eq z.cells (by omega) c.toNat
        rw [hzs] at this
        simpa [hzs] using this
    have hmul : (i.bytes : Int) * c ≤ 140737488351232 := by rw [Int.mul_comm]; exact h3
    have hrun : (execOp a.eval o).run P w = .ok (.value (.slice (some ⟨w.heap.size, 0, none⟩) l.toNat c.toNat)) { w with heap := w.heap.push (.cells (zeros z.cells.toList c.toNat).toArray e) } := by
      have hti : (typeInfo e).run P w = .ok i w := by simp [typeInfo, hi]
      simp only [execOp, ho, ex, ey, Instr.makeSlice, asInt, asIntOf, Sem.run_bind, run_und hd, Result.andThen_ok, Sem.run_pure, hti, wl, wc, run_sz hs, run_askRoom]
      have e1 : (decide (c < 0) || decide ((i.bytes : Int) * c > 2 ^ 48)) = false := by simp; omega
      have e2 : decide (l < 0) = false := by simp; omega
      have e3 : decide (l > c) = false := by simp; omega
      simp only [e1, e2, e3, Bool.or_false, Bool.false_eq_true, if_false, Sem.run_bind, Sem.run_pure, Result.andThen_ok, run_askRoom, run_sz hs]
      by_cases hc0 : c.toNat * i.size = 0
      · rw [if_pos hc0]
        simp only [Sem.run_bind, Sem.run_pure, Result.andThen_ok, hrow #[] (fun h => absurd hc0 h), newRow_run]
      · rw [if_neg hc0]
        simp only [Sem.run_bind, Sem.run_pure, Result.andThen_ok, run_zeroT hzt, hrow z.cells (fun _ => rfl), newRow_run]
    have hcl : (zeros z.cells.toList c.toNat).toArray.size = c.toNat * i.size := by simp [zeros_len, hzs]
    refine wp_value hrun (hnx _ _ _ (Post.new (w' := { w with heap := w.heap.push (.cells (zeros z.cells.toList c.toNat).toArray e) }) (cs := zeros z.cells.toList c.toNat) (cur := (zeros z.cells.toList c.toNat).toArray) (lo := 0) (hi := 0) hpre rfl rfl rfl rfl (fun o _ hh => by omega) (by simp) (by
      rw [List.take_of_length_le (by simp)]
      exact CR.of ((flat_L2 (zeros_flat hzf _)).2 rfl) (by rw [zeros_flat hzf]; simp)) _) ?_)
    exact named_slice (Nat.le_refl _) (by omega) (by rw [hs, hcl]; rfl)
  · exact Sat.stop
end
end Go.Proofs.Ytgbncncmoiadaaa.Ex
/- What one operation does: writes, appends, copies. -/
namespace Go.Proofs.Ytgbncncmoiadaaa.Ex
open Go
set_option linter.unusedVariables false
set_option linter.unusedSimpArgs false
section
variable {P : Program} {F : List Nat} {fr : Fr} {hp : Hp} {o : Oper}
theorem getD_set {b : Blk} {i : Nat} (id : Nat) (hi : i < hp.length) : (hp.set i b).getD id .dead = if id = i then b else hp.getD id .dead := by
  simp only [List.getD_eq_getElem?_getD, List.getElem?_set]
  by_cases c : i = id
  · subst c; simp [hi]
  · rw [if_neg c, if_neg (fun e => c e.symm)]
theorem own_lt {i : Nat} (h : (hp.getD i .dead).isOwn = true) : i < hp.length := by
  rcases Nat.lt_or_ge i hp.length with hlt | hge
  · exact hlt
  · rw [getD_out hge] at h; cases h
/-- A block written in place. -/
theorem Post.write {ν : Nu} {w w' : World} {b g S u : Nat} {e : TypeId} {cs cs' : List Value} {cur' : Array Value} {lo hi : Nat} (h : Pre P F ν hp w) (hF : b ∈ F) (hb : hp.getD b .dead = .own e cs) (hν : ν b = some ⟨g, 0, S, u⟩) (hS : cur'.size = S) (hu : u = (sz P e).getD 0)
    (hg : w'.heap[g]? = some (.cells cur' e (lo, hi))) (ho : ∀ k, k ≠ g → w'.heap[k]? = w.heap[k]?) (hs : w'.heap.size = w.heap.size) (h1 : w'.os = w.os) (h2 : w'.tape = w.tape) (h3 : w'.output = w.output)
    (hnf : ∀ o, o < cur'.size → ¬ (lo ≤ o ∧ o < hi)) (hl : cs'.length ≤ cur'.size) (hc : L2 (CR P ν e) cs' (cur'.toList.take cs'.length)) (v : Value) :
    Post P F ν hp w ⟨v, hp.set b (.own e cs'), [b]⟩ ν w' := by
  have hbo : (hp.getD b .dead).isOwn = true := by rw [hb]; rfl
  have hbl := own_lt hbo
  have st : ∀ id, (((hp.set b (Blk.own e cs')).getD id .dead).isOwn = true → (hp.getD id .dead).isOwn = true) ∧ (((hp.set b (Blk.own e cs')).getD id .dead).live = true → (hp.getD id .dead).live = true) := by
    intro id
    rw [getD_set id hbl]
    split
    · rename_i ei; subst ei; rw [hb]; exact ⟨fun _ => rfl, fun _ => rfl⟩
    · exact ⟨fun h => h, fun h => h⟩
  have outF : ∀ id, hp.length ≤ id → (hp.set b (Blk.own e cs')).getD id .dead = .dead := fun id hid => by rw [getD_set id hbl, if_neg (by omega), getD_out hid]
  refine ⟨fun _ _ => rfl, fun id hid => h.dom id (by simpa using hid), fun id hid => ?_, fun i j N K hne hi' hj' ho' hlv hN hK => ?_, h1, h2, h3, by omega, fun k hk hw => ?_, fun id N hid hlv _ => ?_⟩
  · show RepBlk P ν w' id ((hp.set b (Blk.own e cs')).getD id .dead)
    rw [getD_set id hbl]
    split
    · rename_i ei
      subst ei
      exact ⟨g, cur', lo, hi, by rw [hν, hS, hu], hg, hnf, hl, hc⟩
    · rename_i ei
      rcases hid with hid | hid
      · have hbk := h.blk id hid
        refine hbk.le (Le.refl ν) (fun N hN hlive => ho _ fun eg => ?_) (by omega)
        exact h.sep b id _ N (fun e => ei e.symm) hF hid hbo hlive hν hN eg.symm
      · rw [getD_out hid]; trivial
  · have ci := (st i).1 ho'
    have cj := (st j).2 hlv
    have hiF : i ∈ F := hi'.resolve_right (by have := own_lt ci; omega)
    have hjF : j ∈ F := by
      rcases hj' with hj | hj
      · exact hj
      · rw [getD_out hj] at cj; cases cj
    exact h.sep i j N K hne hiF hjF ci cj hN hK
  · exact ho k fun ek => hw b _ (List.mem_singleton.2 rfl) hν ek.symm
  · change ((hp.set b (Blk.own e cs')).getD id .dead).live = true at hlv
    rw [outF id hid] at hlv
    cases hlv
theorem Shape.write {v : Value} {b : Nat} {e : TypeId} {cs cs' : List Value} (hF : b ∈ F) (hb : hp.getD b .dead = .own e cs) : Shape F hp ⟨v, hp.set b (.own e cs'), [b]⟩ := by
  have hbo : (hp.getD b .dead).isOwn = true := by rw [hb]; rfl
  have hbl := own_lt hbo
  refine ⟨by simp, fun id hid => ?_, fun id hid => ?_, fun id hid hn => ?_⟩
  · rw [List.mem_singleton.1 hid]; exact ⟨hF, hbl⟩
  · rw [List.mem_singleton.1 hid]; exact hbo
  · show (hp.set b _).getD id .dead = _
    rw [getD_set id hbl, if_neg (fun e => hn (by rw [e]; exact List.mem_singleton.2 rfl))]
/-- A block given up, and another name for what became of it: the same block, or a new one. -/
theorem Post.moved {ν : Nu} {w w' : World} {b g g' S u : Nat} {e : TypeId} {cs cs' : List Value} {cur' : Array Value} {lo hi : Nat} (h : Pre P F ν hp w) (hF : b ∈ F) (hb : hp.getD b .dead = .own e cs) (hν : ν b = some ⟨g, 0, S, u⟩)
    (hg : w'.heap[g']? = some (.cells cur' e (lo, hi))) (hgg : g' = g ∨ w.heap.size ≤ g') (ho : ∀ k, k < w.heap.size → k ≠ g → w'.heap[k]? = w.heap[k]?) (hs : w.heap.size ≤ w'.heap.size) (h1 : w'.os = w.os) (h2 : w'.tape = w.tape) (h3 : w'.output = w.output)
    (hnf : ∀ o, o < cur'.size → ¬ (lo ≤ o ∧ o < hi)) (hl : cs'.length ≤ cur'.size) (hc : L2 (CR P ν e) cs' (cur'.toList.take cs'.length)) (v : Value) :
    Post P F ν hp w ⟨v, hp.set b .dead ++ [.own e cs'], [b]⟩ (named ν hp.length ⟨g', 0, cur'.size, (sz P e).getD 0⟩) w' := by
  have hbo : (hp.getD b .dead).isOwn = true := by rw [hb]; rfl
  have hbl := own_lt hbo
  have le : Le ν (named ν hp.length ⟨g', 0, cur'.size, (sz P e).getD 0⟩) := named_le (h.dom _ (Nat.le_refl _))
  have hgl : g < w.heap.size := by
    have := h.blk b hF
    rw [hb] at this
    exact this.lt rfl hν
  have gD : ∀ id, (hp.set b Blk.dead ++ [Blk.own e cs']).getD id .dead = if id = b then .dead else if id < hp.length then hp.getD id .dead else if id = hp.length then .own e cs' else .dead := by
    intro id
    rw [getD_snoc, List.length_set]
    by_cases c1 : id < hp.length
    · rw [if_pos c1, getD_set id hbl, if_pos c1]
    · rw [if_neg c1, if_neg c1]
      by_cases c2 : id = b
      · omega
      · rw [if_neg c2]
  have nN : ∀ k, k < hp.length → named ν hp.length ⟨g', 0, cur'.size, (sz P e).getD 0⟩ k = ν k := fun k hk => by unfold named; rw [if_neg (by omega)]
  have old : ∀ k M, k < hp.length → k ≠ b → (k ∈ F ∨ hp.length ≤ k) → (hp.getD k .dead).live = true → named ν hp.length ⟨g', 0, cur'.size, (sz P e).getD 0⟩ k = some M → ν k = some M ∧ M.g < w.heap.size ∧ k ∈ F ∧ M.g ≠ g := by
    intro k M hk hkb hkF hkl hM
    rw [nN k hk] at hM
    have hF' := hkF.resolve_right (by omega)
    exact ⟨hM, (h.blk k hF').lt hkl hM, hF', fun eg => h.sep b k _ M (fun e => hkb e.symm) hF hF' hbo hkl hν hM eg.symm⟩
  refine ⟨fun id hid => nN id hid, fun id hid => ?_, fun id hid => ?_, fun i j N K hne hi' hj' ho' hlv hN hK => ?_, h1, h2, h3, hs, fun k hk hw => ?_, fun id N hid hlv hN => ?_⟩
  · simp at hid
    unfold named
    rw [if_neg (by omega)]
    exact h.dom id (by omega)
  · show RepBlk P _ w' id ((hp.set b Blk.dead ++ [Blk.own e cs']).getD id .dead)
    rw [gD]
    split
    · trivial
    · rename_i cb
      split
      · rename_i c1
        have hF' : id ∈ F := hid.resolve_right (by omega)
        have hbk := h.blk id hF'
        refine hbk.le le (fun N hN hlive => ?_) hs
        exact ho _ (hbk.lt hlive hN) fun eg => h.sep b id _ N (fun e => cb e.symm) hF hF' hbo hlive hν hN eg.symm
      · split
        · rename_i c1 c2
          subst c2
          exact ⟨g', cur', lo, hi, by unfold named; rw [if_pos rfl], hg, hnf, hl, hc.mono fun _ _ => CR.le le⟩
        · trivial
  · change ((hp.set b Blk.dead ++ [Blk.own e cs']).getD i .dead).isOwn = true at ho'
    change ((hp.set b Blk.dead ++ [Blk.own e cs']).getD j .dead).live = true at hlv
    rw [gD] at ho' hlv
    have atNew : ∀ M, named ν hp.length ⟨g', 0, cur'.size, (sz P e).getD 0⟩ hp.length = some M → M.g = g' := fun M hM => by
      unfold named at hM
      rw [if_pos rfl] at hM
      cases hM
      rfl
    split at ho'
    · cases ho'
    · rename_i cib
      split at hlv
      · cases hlv
      · rename_i cjb
        split at ho'
        · rename_i ci
          obtain ⟨a1, a2, a3, a4⟩ := old i N ci cib hi' (own_live ho') hN
          split at hlv
          · rename_i cj
            obtain ⟨b1, b2, b3, b4⟩ := old j K cj cjb hj' hlv hK
            exact h.sep i j N K hne a3 b3 ho' hlv a1 b1
          · split at hlv
            · rename_i ej
              subst ej
              rw [atNew K hK]
              rcases hgg with hgg | hgg
              · rw [hgg]; exact a4
              · omega
            · cases hlv
        · split at ho'
          · rename_i ei
            subst ei
            rw [atNew N hN]
            split at hlv
            · rename_i cj
              obtain ⟨b1, b2, b3, b4⟩ := old j K cj cjb hj' hlv hK
              rcases hgg with hgg | hgg
              · rw [hgg]; exact fun e => b4 e.symm
              · omega
            · split at hlv
              · rename_i ej; exact absurd ej.symm hne
              · cases hlv
          · cases ho'
  · exact ho k hk fun ek => hw b _ (List.mem_singleton.2 rfl) hν ek.symm
  · change ((hp.set b Blk.dead ++ [Blk.own e cs']).getD id .dead).live = true at hlv
    rw [gD] at hlv
    split at hlv
    · cases hlv
    · split at hlv
      · omega
      · split at hlv
        · rename_i ei
          subst ei
          unfold named at hN
          rw [if_pos rfl] at hN
          cases hN
          rcases hgg with hgg | hgg
          · exact .inr ⟨b, _, List.mem_singleton.2 rfl, hν, hgg.symm⟩
          · exact .inl hgg
        · cases hlv
theorem Shape.moved {v : Value} {b : Nat} {e : TypeId} {cs cs' : List Value} (hF : b ∈ F) (hb : hp.getD b .dead = .own e cs) : Shape F hp ⟨v, hp.set b .dead ++ [.own e cs'], [b]⟩ := by
  have hbo : (hp.getD b .dead).isOwn = true := by rw [hb]; rfl
  have hbl := own_lt hbo
  refine ⟨by simp, fun id hid => ?_, fun id hid => ?_, fun id hid hn => ?_⟩
  · rw [List.mem_singleton.1 hid]; exact ⟨hF, hbl⟩
  · rw [List.mem_singleton.1 hid]; exact hbo
  · show (hp.set b .dead ++ [Blk.own e cs']).getD id .dead = _
    rw [getD_snoc, List.length_set, if_pos hid, getD_set id hbl, if_neg (fun e => hn (by rw [e]; exact List.mem_singleton.2 rfl))]
theorem VR1.one {ν : Nu} {v v' : Value} (h : VR1 ν v v') : v'.oneCell' = true := by
  cases v with
  | func fn f c => obtain ⟨_, _, rfl, _⟩ := h; rfl
  | pointer a => cases a with
    | none => cases h; rfl
    | some a => obtain ⟨_, _, _, rfl⟩ := h; rfl
  | slice a l c => cases a with
    | some a => obtain ⟨_, _, rfl, _⟩ := h; rfl
    | none => cases l <;> cases c <;> simp [VR1, VR0] at h; subst h; rfl
  | map r => cases r <;> simp [VR1, VR0] at h; subst h; rfl
  | bool b => cases h; rfl
  | int k n => cases h; rfl
  | string s => cases h; rfl
  | nilFunc => cases h; rfl
  | nilIface => cases h; rfl
  | _ => simp [VR1, VR0] at h
theorem L2.ones {ν : Nu} {l m : List Value} (h : L2 (VR1 ν) l m) : ∀ v ∈ m, v.oneCell' = true := by
  induction h with
  | nil => simp
  | cons h _ ih =>
    intro v hv
    rcases List.mem_cons.1 hv with rfl | hv
    · exact h.one
    · exact ih v hv
theorem setCell_heap {w : World} {g i : Nat} {cur : Array Value} {e : TypeId} {fz : Nat × Nat} {v : Value} (hg : w.heap[g]? = some (.cells cur e fz)) :
    (w.setCell ⟨g, i, none⟩ v).heap[g]? = some (.cells (cur.setIfInBounds i v) e fz) ∧ (∀ k, k ≠ g → (w.setCell ⟨g, i, none⟩ v).heap[k]? = w.heap[k]?) ∧ (w.setCell ⟨g, i, none⟩ v).heap.size = w.heap.size := by
  refine ⟨?_, fun k hk => ?_, ?_⟩
  · simp [World.setCell, Array.getElem?_modify, hg]
  · have hne : ¬ g = k := fun e => hk e.symm
    simp [World.setCell, Array.getElem?_modify, hne]
  · simp [World.setCell]
theorem storeCells_run {g off : Nat} {e : TypeId} {fz : Nat × Nat} : ∀ (vs : List Value) (i : Nat) (cur : Array Value) (w : World), w.heap[g]? = some (.cells cur e fz) → off + i + vs.length ≤ cur.size →
    (∀ o, o < cur.size → ¬ (fz.1 ≤ o ∧ o < fz.2)) → (∀ v ∈ vs, v.oneCell' = true) → ∃ w', (storeCells ⟨g, off, none⟩ vs i).run P w = .ok () w' ∧ w'.heap[g]? = some (.cells (put cur.toList (off + i) vs).toArray e fz) ∧
      (∀ k, k ≠ g → w'.heap[k]? = w.heap[k]?) ∧ w'.heap.size = w.heap.size ∧ w'.os = w.os ∧ w'.tape = w.tape ∧ w'.output = w.output
  | [], i, cur, w, hg, _, _, _ => ⟨w, rfl, by simpa [put] using hg, fun _ _ => rfl, rfl, rfl, rfl, rfl⟩
  | v :: rest, i, cur, w, hg, hl, hnf, h1 => by
    have hi : off + i < cur.size := by simp at hl; omega
    have hadd : (⟨g, off, none⟩ : Addr).add i = ⟨g, off + i, none⟩ := by unfold Addr.add; split <;> simp_all
    have hcell : w.cell? ⟨g, off + i, none⟩ = some cur[off + i] := by simp [World.cell?, hg, hi]
    have hfro : w.frozen? ⟨g, off + i, none⟩ = false := by
      have := hnf _ hi
      obtain ⟨a, b⟩ := fz
      simp only [World.frozen?, hg]
      simp at this ⊢
      omega
    have hst : (store ((⟨g, off, none⟩ : Addr).add i) v).run P w = .ok () (w.setCell ⟨g, off + i, none⟩ v) := by
      rw [hadd, run_store P w _ v _ (h1 v (by simp)), hcell]
      simp [hfro]
    obtain ⟨s1, s2, s3⟩ := setCell_heap (i := off + i) (v := v) hg
    obtain ⟨w', k1, k2, k3, k4, k5, k6, k7⟩ := storeCells_run (off := off) rest (i + 1) (cur.setIfInBounds (off + i) v) (w.setCell ⟨g, off + i, none⟩ v) s1 (by simp at hl ⊢; omega) (by simpa using hnf) (fun x hx => h1 x (by simp [hx]))
    refine ⟨w', ?_, ?_, fun k hk => (k3 k hk).trans (s2 k hk), k4.trans s3, k5, k6, k7⟩
    · simp only [storeCells, Sem.run_bind, hst, Result.andThen_ok, k1]
    · rw [k2]
      simp [put, Nat.add_assoc]
theorem put_len : ∀ (vs cs : List Value) (o : Nat), (put cs o vs).length = cs.length
  | [], _, _ => rfl
  | v :: vs, cs, o => by rw [put, put_len vs]; simp
theorem put_take : ∀ (vs cs : List Value) (o n : Nat), o + vs.length ≤ n → (put cs o vs).take n = put (cs.take n) o vs
  | [], _, _, _, _ => rfl
  | v :: vs, cs, o, n, h => by
    simp only [List.length_cons] at h
    rw [put, put, put_take vs _ _ _ (by omega), List.take_set]
theorem wr_sat {b off : Nat} {vs : List Value} {fl : Bool} {v : Value} (hF : b ∈ F) (hk : ∀ hp', (∃ e cs, hp.getD b .dead = .own e cs ∧ off + vs.length ≤ cs.length ∧ (!flatT P 6 e || fl) = true ∧ hp' = hp.set b (.own e (put cs off vs))) → OpOk P F fr hp o ⟨v, hp', [b]⟩) :
    Sat ((wrN P hp b off fl vs).map fun hp => (⟨v, hp, [b]⟩ : Res)) (OpOk P F fr hp o) := by
  apply Sat.map
  unfold wrN
  split
  · rename_i e cs he
    refine Sat.bind_chk fun hc => Sat.ret _ (hk _ ⟨e, cs, he, ?_, ?_, rfl⟩)
    · simp only [Bool.and_eq_true, decide_eq_true_eq] at hc; exact hc.1
    · simp only [Bool.and_eq_true] at hc; exact hc.2
  · exact Sat.stop
/-- A write of related cells into a block of one's own: the run of 'storeCells', and what it leaves. -/
theorem write_ok {ν : Nu} {w : World} {b off : Nat} {e : TypeId} {cs vs vs' : List Value} (h : Pre P F ν hp w) (hF : b ∈ F) (hb : hp.getD b .dead = .own e cs) (hl : off + vs.length ≤ cs.length) (hv : L2 (CR P ν e) vs vs') (v : Value) :
    ∃ N w', ν b = some N ∧ (storeCells (N.at off) vs').run P w = .ok () w' ∧ Post P F ν hp w ⟨v, hp.set b (.own e (put cs off vs)), [b]⟩ ν w' := by
  have hbk := h.blk b hF
  rw [hb] at hbk
  obtain ⟨g, cur, lo, hi, h1, h2, h3, h4, h5⟩ := hbk
  have hvl := hv.len
  obtain ⟨w', k1, k2, k3, k4, k5, k6, k7⟩ := storeCells_run (P := P) (off := off) vs' 0 cur w h2 (by omega) h3 (L2.ones (hv.mono fun _ _ hh => hh.1))
  have hat : (⟨g, 0, cur.size, (sz P e).getD 0⟩ : Nm).at off = ⟨g, off, none⟩ := by simp [Nm.at]
  refine ⟨_, w', h1, by rw [hat]; exact k1, ?_⟩
  refine Post.write (cur' := (put cur.toList off vs').toArray) (lo := lo) (hi := hi) h hF hb h1 (by simp [put_len]) rfl (by simpa using k2) k3 k4 k5 k6 k7 (by simpa [put_len] using h3) (by simpa [put_len] using h4) ?_ v
  rw [put_len, List.toList_toArray, put_take _ _ _ _ (by omega)]
  have := L2.len h5
  have pl : ∀ {vs vs' : List Value} {cs cs' : List Value} (o : Nat), L2 (CR P ν e) vs vs' → L2 (CR P ν e) cs cs' → L2 (CR P ν e) (put cs o vs) (put cs' o vs') := fun o => put_L2 o
  exact pl off hv h5
theorem store_sat {t : TypeId} {x y : Operand} {av v : Value} (ho : o.op = .store t x y) (ha : val fr x = some av) (hv : val fr y = some v) (hF : ∀ id, id ∈ idsV av → id ∈ F) (hlv : lvlC v = true) : Sat (storeA P hp t av v) (OpOk P F fr hp o) := by
  unfold storeA
  split
  · rename_i b off
    have hbF : b ∈ F := hF b (by simp [idsV, idsVC, idsV1])
    refine Sat.bind_lift fun n hn => Sat.bind_chk fun hsz => wr_sat hbF ?_
    rintro hp' ⟨e, cs, he, hl, hf, rfl⟩
    refine ⟨Shape.write hbF he, fun ν a w henv hpre next Q hnx => ?_⟩
    obtain ⟨N0, h1, h2⟩ := VR.ptr (henv x (by simp [ho, Op.operands]) _ ha)
    have hcells := ((henv y (by simp [ho, Op.operands]) _ hv).toC hlv).cells
    have hcl := hcells.len
    obtain ⟨N, w', k1, k2, k3⟩ := write_ok (v := undef) hpre hbF he hl (CR.of hcells hf)
    rw [h1] at k1
    cases k1
    simp only [beq_iff_eq] at hsz
    have hsz' : (a.eval y).cells.size = n := by simp at hcl; omega
    have hrun : (execOp a.eval o).run P w = .ok .skip w' := by
      simp only [execOp, ho, h2, Instr.storeAt, Instr.sureAddr, storeVar, Sem.run_bind, Sem.run_pure, Result.andThen_ok, run_sz hn, hsz', ne_eq, not_true_eq_false, if_false, k2]
    exact wp_skip_ hrun (hnx ν undef w' k3 ⟨_, rfl, .nil⟩)
  · exact Sat.stop
end
end Go.Proofs.Ytgbncncmoiadaaa.Ex
