/- A deterministic interpreter over an abstract heap of named blocks: what a function computes, whatever the tape draws. It is run by the kernel; where a test or a call is not to be seen through, an oracle tells its outcome, and what was told is owed. -/
import Derived.Calls
import Derived.Orders
namespace Go.Proofs.Ytfjlaplhglfcaaa.Ex
open Go
set_option linter.unusedVariables false
/-- A block: gone; one of the run's own (its type, the cells known of it, from its beginning); one that came in and is only read. -/
inductive Blk where
  | dead
  | own (e : TypeId) (cs : List Value)
  | ro (e : TypeId) (cs : List Value)
  deriving Inhabited
/-- What is known of the temporaries: a tree, so that few steps lead to each. -/
inductive Tr where
  | nil
  | nd (l : Tr) (v : Option Value) (r : Tr)
def Tr.get : Tr → Nat → Option Value
  | .nil, _ => none
  | .nd l v r, i => bif Nat.beq i 0 then v else bif Nat.beq (Nat.mod i 2) 1 then l.get (Nat.div i 2) else r.get (Nat.pred (Nat.div i 2))
def Tr.set : Tr → Nat → Option Value → Tr
  | .nil, _, _ => .nil
  | .nd l v r, i, u => bif Nat.beq i 0 then .nd l u r else bif Nat.beq (Nat.mod i 2) 1 then .nd (l.set (Nat.div i 2) u) v r else .nd l v (r.set (Nat.pred (Nat.div i 2)) u)
def Tr.full : Nat → Tr
  | 0 => .nil
  | n + 1 => .nd (Tr.full n) none (Tr.full n)
structure Fr where
  n : Nat
  t : Tr
def Fr.get (fr : Fr) (i : Nat) : Option Value := bif Nat.blt i fr.n then fr.t.get i else none
def Fr.set (fr : Fr) (i : Nat) (v : Option Value) : Fr := ⟨fr.n, fr.t.set i v⟩
def Fr.empty (n : Nat) : Fr := ⟨n, Tr.full (Nat.log2 n + 1)⟩
abbrev Hp := List Blk
/-- What an operation leaves: its value, the heap, the blocks that it wrote. -/
structure Res where
  v : Value
  hp : Hp
  wr : List Nat
inductive Xt where
  | normal
  | exit (id : Nat)
  | ret
structure Out where
  ex : Xt
  fr : Fr
  hp : Hp
  wr : List Nat
/-- No address in it. -/
def flat1 : Value → Bool
  | .bool _ | .int _ _ | .string _ | .nilFunc | .nilIface => true
  | .pointer none | .slice none 0 0 | .map none => true
  | .func _ f c => f.size == 0 && c.size == 0
  | _ => false
def flatC : Value → Bool
  | .agg cs => cs.toList.all flat1
  | v => flat1 v
def flat : Value → Bool
  | .tuple cs => cs.toList.all flatC
  | v => flatC v
/-- What stands for what: the real block, where the named one begins in it, how many cells there are, how many an element has. -/
structure Nm where
  g : Nat
  o : Nat
  S : Nat
  u : Nat
def Nm.at (N : Nm) (i : Nat) : Addr := ⟨N.g, N.o + i, none⟩
abbrev Nu := Nat → Option Nm
inductive L2 {α β : Type} (R : α → β → Prop) : List α → List β → Prop
  | nil : L2 R [] []
  | cons {a b l m} : R a b → L2 R l m → L2 R (a :: l) (b :: m)
/-- A cell's value with abstract names, and the real one. -/
def VR0 (ν : Nu) (v v' : Value) : Prop :=
  match v with
  | .pointer (some a) => ∃ N, ν a.block = some N ∧ a.spot = none ∧ v' = .pointer (some (N.at a.off))
  | .slice (some a) len cap => ∃ a' cap', v' = .slice (some a') len cap' ∧ cap ≤ cap' ∧ len ≤ cap' ∧ (0 < cap' → ∃ N, ν a.block = some N ∧ a.spot = none ∧ a' = N.at a.off ∧ a.off + cap' * N.u = N.S)
  | .bool _ | .int _ _ | .string _ | .nilFunc | .nilIface | .pointer none | .slice none 0 0 | .map none => v' = v
  | _ => False
def VR1 (ν : Nu) (v v' : Value) : Prop :=
  match v with
  | .func fn f c => ∃ f' c', v' = .func fn f' c' ∧ L2 (VR0 ν) f.toList f'.toList ∧ L2 (VR0 ν) c.toList c'.toList
  | v => VR0 ν v v'
def VRC (ν : Nu) (v v' : Value) : Prop :=
  match v with
  | .agg cs => ∃ cs', v' = .agg cs' ∧ L2 (VR1 ν) cs.toList cs'.toList
  | v => VR1 ν v v'
def VR (ν : Nu) (v v' : Value) : Prop :=
  match v with
  | .tuple cs => ∃ cs', v' = .tuple cs' ∧ L2 (VRC ν) cs.toList cs'.toList
  | v => VRC ν v v'
/-- Has a type no addresses? -/
def flatT (P : Program) : Nat → TypeId → Bool
  | 0, _ => false
  | n + 1, t => match P.underlying t with
    | some .bool | some (.int _) | some .string => true
    | some (.struct fs) => fs.toList.all fun f => flatT P n f.type
    | some (.array _ e) => flatT P n e
    | _ => false
def sz (P : Program) (t : TypeId) : Option Nat := (P.info? t).map (·.size)
def CR (P : Program) (ν : Nu) (e : TypeId) (v v' : Value) : Prop := VR1 ν v v' ∧ (flatT P 6 e = true → flat1 v = true)
def RepBlk (P : Program) (ν : Nu) (w : World) (id : Nat) : Blk → Prop
  | .dead => True
  | .own e cs => ∃ g cur lo hi, ν id = some ⟨g, 0, cur.size, (sz P e).getD 0⟩ ∧ w.heap[g]? = some (.cells cur e (lo, hi)) ∧ (∀ o, o < cur.size → ¬ (lo ≤ o ∧ o < hi)) ∧ cs.length ≤ cur.size ∧ L2 (CR P ν e) cs (cur.toList.take cs.length)
  | .ro e cs => ∃ N, ν id = some N ∧ N.u = (sz P e).getD 0 ∧ N.g < w.heap.size ∧ ∃ cs', L2 (CR P ν e) cs cs' ∧ ∀ i v, cs'[i]? = some v → w.cell? (N.at i) = some v
def Blk.live : Blk → Bool
  | .dead => false
  | _ => true
def Blk.isOwn : Blk → Bool
  | .own _ _ => true
  | _ => false
structure Rep (P : Program) (ν : Nu) (hp : Hp) (w : World) : Prop where
  dom : ∀ id, hp.length ≤ id → ν id = none
  blk : ∀ id, RepBlk P ν w id (hp.getD id .dead)
  sep : ∀ i j N K, i ≠ j → (hp.getD i .dead).isOwn = true → (hp.getD j .dead).live = true → ν i = some N → ν j = some K → N.g ≠ K.g
def FrRel (ν : Nu) (fr : Fr) (tmps : Array Value) : Prop := fr.n = tmps.size ∧ ∀ (t : Nat) v, fr.get t = some v → ∃ v', tmps[t]? = some v' ∧ VR ν v v'
/-- Where a run stands, seen from where its function began (the world w0, the first m blocks). -/
structure Inv (P : Program) (w0 : World) (ν0 : Nu) (m : Nat) (ν : Nu) (hp : Hp) (wr : List Nat) (w : World) : Prop where
  rep : Rep P ν hp w
  len : m ≤ hp.length
  same : ∀ id, id < m → ν id = ν0 id
  os : w.os = w0.os
  tape : w.tape = w0.tape
  output : w.output = w0.output
  size : w0.heap.size ≤ w.heap.size
  frame : ∀ g, g < w0.heap.size → (∀ id N, id < m → id ∈ wr → ν0 id = some N → N.g ≠ g) → w.heap[g]? = w0.heap[g]?
  fresh : ∀ id N, m ≤ id → (hp.getD id .dead).live = true → ν id = some N → w0.heap.size ≤ N.g ∨ ∃ j K, j < m ∧ j ∈ wr ∧ ν0 j = some K ∧ K.g = N.g
def Xt.of : Xt → Exit
  | .normal => .normal
  | .exit id => .exit id
  | .ret => .ret
/-- Whatever stands for the frame and the heap: the code ends as told. -/
def CodeSpec (P : Program) (m : Nat) (c : Code) (fr : Fr) (hp : Hp) (o : Out) : Prop :=
  ∀ w0 ν0 ν wr (a : Act) w (Q : Exit → Act → World → Prop), Inv P w0 ν0 m ν hp wr w → FrRel ν fr a.tmps →
    (∀ ν' (a' : Act) w', Inv P w0 ν0 m ν' o.hp (o.wr ++ wr) w' → FrRel ν' o.fr a'.tmps → a'.defers = a.defers → Q o.ex.of a' w') → c.wp P Q a w
/-- Whatever stands for the arguments and the blocks that they lead to: the call returns as told. -/
def CallSpec (P : Program) (f : FuncId) (args : List Value) (hp : Hp) (r : Res) : Prop :=
  ∀ ν w args', L2 (VR ν) args args' → Rep P ν hp w → Calls P f args'.toArray w fun e w' => ∃ v' ν', e = .returned v' ∧ VR ν' r.v v' ∧ Inv P w ν hp.length ν' r.hp r.wr w'
inductive Itm where
  | dec (b : Bool)
  | must
  | val (v : Value)
  | call (r : Res)
  | loop (keep : List Nat) (r : Out)
/-- The oracle: how many points to pass, then what to take. -/
abbrev Orcs := List (Nat × Itm)
/-- An answer: the value, what is left of the oracle, whether all checks held, what is owed. -/
structure Ans (α : Type) where
  a : α
  orc : Orcs
  ok : Bool
  owe : List Prop
abbrev M (α : Type) := Orcs → Option (Ans α)
def M.bind {α β : Type} (x : M α) (f : α → M β) : M β := fun o => match x o with
  | none => none
  | some ⟨a, o, k, w⟩ => match f a o with
    | none => none
    | some ⟨b, o, k', w'⟩ => some ⟨b, o, k && k', w ++ w'⟩
def M.map {α β : Type} (f : α → β) (x : M α) : M β := fun o => match x o with | none => none | some ⟨a, o, k, w⟩ => some ⟨f a, o, k, w⟩
def ret {α : Type} (a : α) : M α := fun o => some ⟨a, o, true, []⟩
def stop {α : Type} : M α := fun _ => none
def lift {α : Type} : Option α → M α
  | some a => ret a
  | none => stop
/-- A check: it must hold, or is owed. -/
def chk (b : Bool) : M Unit := fun o =>
  match o with
  | [] => some ⟨(), [], b, []⟩
  | (0, .must) :: r => some ⟨(), r, true, [b = true]⟩
  | (0, _) :: _ => none
  | (k + 1, i) :: r => some ⟨(), (k, i) :: r, b, []⟩
def ask (b : Bool) : M Bool := fun o =>
  match o with
  | [] => some ⟨b, [], true, []⟩
  | (0, .dec d) :: r => some ⟨d, r, true, [b = d]⟩
  | (0, _) :: _ => none
  | (k + 1, i) :: r => some ⟨b, (k, i) :: r, true, []⟩
def val (fr : Fr) : Operand → Option Value
  | .tmp t => fr.get t
  | .const v => if flat v = true then some v else none
  | .func f => some (.func (.func f) #[] #[])
  | .global _ => none
def vals (fr : Fr) : List Operand → Option (List Value)
  | [] => some []
  | x :: xs => (val fr x).bind fun v => (vals fr xs).bind fun vs => some (v :: vs)
def cellsAt (hp : Hp) (b : Nat) : Option (List Value) :=
  match hp.getD b .dead with
  | .own _ cs => some cs
  | .ro _ cs => some cs
  | .dead => none
def zeroT (P : Program) (t : TypeId) : Option Value := (P.info? t).bind (·.zero)
def aggT (P : Program) (t : TypeId) : Option Bool := (P.underlying t).map fun | .struct _ | .array _ _ => true | _ => false
def unit (P : Program) (hp : Hp) (b : Nat) : Option Nat :=
  match hp.getD b .dead with
  | .own e _ => sz P e
  | .ro e _ => sz P e
  | .dead => none
def isInt (k : IntKind) : Value → Bool
  | .int j _ => j == k
  | _ => false
def intOf : Value → Int
  | .int _ n => n
  | _ => 0
def isBool : Value → Bool
  | .bool _ => true
  | _ => false
def boolOf : Value → Bool
  | .bool b => b
  | _ => false
def isStr : Value → Bool
  | .string _ => true
  | _ => false
def strOf : Value → ByteArray
  | .string s => s
  | _ => .empty
/-- A value may be told in another form. -/
def see (v : Value) : M Value := fun o =>
  match o with
  | [] => some ⟨v, [], true, []⟩
  | (0, .val u) :: r => some ⟨u, r, true, [v = u]⟩
  | (0, _) :: _ => none
  | (k + 1, i) :: r => some ⟨v, (k, i) :: r, true, []⟩
/-- A value that was read, in the form of its type. -/
def asT (P : Program) (t : TypeId) (v : Value) : M Value :=
  match P.underlying t with
  | some (.int k) => (chk (isInt k v)).bind fun _ => ret (.int k (intOf v))
  | some .bool => (chk (isBool v)).bind fun _ => ret (.bool (boolOf v))
  | some .string => (chk (isStr v)).bind fun _ => ret (.string (strOf v))
  | _ => ret v
def put (cs : List Value) (o : Nat) : List Value → List Value
  | [] => cs
  | v :: vs => put (cs.set o v) (o + 1) vs
def loadA (P : Program) (hp : Hp) (t : TypeId) : Value → M Value
  | .pointer (some ⟨b, o, none⟩) => (lift (cellsAt hp b)).bind fun cs => (lift (aggT P t)).bind fun g =>
      if g = true then (lift (sz P t)).bind fun n => (chk (decide (o + n ≤ cs.length))).bind fun _ => ret (.agg ((cs.drop o).take n).toArray)
      else (chk (decide (o < cs.length))).bind fun _ => asT P t (cs.getD o undef)
  | _ => stop
def wrN (P : Program) (hp : Hp) (b o : Nat) (fl : Bool) (vs : List Value) : M Hp :=
  match hp.getD b .dead with
  | .own e cs => (chk (decide (o + vs.length ≤ cs.length) && (!flatT P 6 e || fl))).bind fun _ => ret (hp.set b (.own e (put cs o vs)))
  | _ => stop
def storeA (P : Program) (hp : Hp) (t : TypeId) (a v : Value) : M Res :=
  match a with
  | .pointer (some ⟨b, o, none⟩) => (lift (sz P t)).bind fun n => (chk (v.cells.size == n)).bind fun _ => (wrN P hp b o (v.cells.toList.all flat1) v.cells.toList).map fun hp => ⟨undef, hp, [b]⟩
  | _ => stop
def newA (P : Program) (hp : Hp) (e : TypeId) (cs : List Value) : M Res := (chk (!flatT P 6 e || cs.all flat1)).bind fun _ => ret ⟨.pointer (some ⟨hp.length, 0, none⟩), hp ++ [.own e cs], []⟩
def partA (P : Program) (t : TypeId) (cs : Array Value) (off : Nat) : M Value :=
  (lift (aggT P t)).bind fun g => if g = true then (lift (sz P t)).bind fun n => (chk (decide (off + n ≤ cs.size))).bind fun _ => ret (.agg (cs.extract off (off + n)))
    else (chk (decide (off < cs.size))).bind fun _ => asT P t (cs.toList.getD off undef)
def pureRun (P : Program) {α : Type} : Sem α → Option α
  | .pure a => some a
  | .program k => pureRun P (k P)
  | .mark _ k => pureRun P k
  | _ => none
def at_ (b o : Nat) : Value := .pointer (some ⟨b, o, none⟩)
def fieldA (P : Program) (s : TypeId) (x : Value) (f : Nat) : Option Value :=
  match x, P.underlying s with
  | .pointer (some ⟨b, o, none⟩), some (.struct fs) => (fs[f]?).bind fun g => (sz P g.type).bind fun n => if n = 0 then none else some (at_ b (o + g.offset))
  | _, _ => none
def inside (i : Int) (n : Nat) : Bool := decide (0 ≤ i) && decide (i < (n : Int))
def upto (i : Int) (n : Nat) : Bool := decide (0 ≤ i) && decide (i ≤ (n : Int))
def indexA (P : Program) (t : TypeId) (x i : Value) : M Value :=
  match P.underlying t, x, i with
  | some (.array len e), .pointer (some ⟨b, o, none⟩), .int _ i => (lift (sz P e)).bind fun n => (chk (inside i len)).bind fun _ => ret (at_ b (o + i.toNat * n))
  | some (.slice e), .slice (some ⟨b, o, none⟩) len _, .int _ i => (lift (sz P e)).bind fun n => (chk (inside i len)).bind fun _ => ret (at_ b (o + i.toNat * n))
  | _, _, _ => stop
def boundA (y : Nat) (d : Nat) : Option Value → M Nat
  | none => ret d
  | some (.int _ i) => (chk (upto i y)).bind fun _ => ret i.toNat
  | _ => stop
def cutA (P : Program) (hp : Hp) (t : TypeId) (x : Value) (lo hi : Option Value) : M Value :=
  match P.underlying t, x with
  | some .string, .string s => (boundA s.size s.size hi).bind fun h => (boundA h 0 lo).bind fun l => ret (.string (s.extract l h))
  | some (.slice e), .slice (some ⟨b, o, none⟩) len cap => (boundA cap len hi).bind fun h => (boundA h 0 lo).bind fun l => (lift (sz P e)).bind fun n => (lift (unit P hp b)).bind fun u =>
      (chk (u == n)).bind fun _ => ret (.slice (some ⟨b, o + l * n, none⟩) (h - l) (cap - l))
  | some (.slice e), .slice none 0 0 => (boundA 0 0 hi).bind fun h => (boundA h 0 lo).bind fun l => (lift (sz P e)).bind fun _ => ret (.slice none 0 0)
  | _, _ => stop
def fillA (place : Nat → Option (Nat × Nat)) (cells : List Value) : List (Nat × Value) → M (List Value)
  | [] => ret cells
  | (i, v) :: rest => (lift (place i)).bind fun p => (chk (v.cells.size == p.2 && decide (p.1 + p.2 ≤ cells.length))).bind fun _ => fillA place (put cells p.1 v.cells.toList) rest
def buildA (P : Program) (t : TypeId) (parts : List (Nat × Value)) : M Value :=
  (lift (zeroT P t)).bind fun z => (chk (z.cells.toList.all flat1)).bind fun _ =>
  match P.underlying t with
  | some (.struct fs) => (chk (fs.toList.all fun f => (sz P f.type).isSome)).bind fun _ => (fillA (fun i => (fs[i]?).map fun f => (f.offset, (sz P f.type).getD 0)) z.cells.toList parts).map fun cs => .agg cs.toArray
  | some (.array _ e) => (lift (sz P e)).bind fun n => (fillA (fun i => some (i * n, n)) z.cells.toList parts).map fun cs => .agg cs.toArray
  | _ => stop
def zeros (z : List Value) : Nat → List Value
  | 0 => []
  | n + 1 => z ++ zeros z n
def most : Nat := 140737488351232
def buildSliceA (P : Program) (hp : Hp) (t : TypeId) (len : Nat) (parts : List (Nat × Value)) : M Res :=
  match P.underlying t with
  | some (.slice e) => (lift (sz P e)).bind fun n => (lift (zeroT P e)).bind fun z => (chk (decide (len * n ≤ 16777216) && z.cells.size == n && decide (0 < n) && z.cells.toList.all flat1)).bind fun _ =>
      (fillA (fun i => some (i * n, n)) (zeros z.cells.toList len) parts).bind fun cs => (chk (!flatT P 6 e || cs.all flat1)).bind fun _ => ret ⟨.slice (some ⟨hp.length, 0, none⟩) len len, hp ++ [.own e cs], []⟩
  | _ => stop
def makeSliceA (P : Program) (hp : Hp) (t : TypeId) (l c : Value) : M Res :=
  match P.underlying t, l, c with
  | some (.slice e), .int _ l, .int _ c => (lift (P.info? e)).bind fun i => (lift i.zero).bind fun z => (chk (decide (0 ≤ l) && decide (l ≤ c) && decide (c * i.bytes ≤ most) && decide (c ≤ most) && z.cells.size == i.size && decide (0 < i.size) && z.cells.toList.all flat1)).bind fun _ =>
      ret ⟨.slice (some ⟨hp.length, 0, none⟩) l.toNat c.toNat, hp ++ [.own e (zeros z.cells.toList c.toNat)], []⟩
  | _, _, _ => stop
def bytesOf (s : ByteArray) : List Value := s.data.toList.map fun b => .int .u8 b.toNat
/-- How many elements a slice or a string gives, their cells, and whether these are known to be without addresses. -/
def newsA (P : Program) (hp : Hp) (n : Nat) : Value → M (Nat × List Value × Bool)
  | .slice none 0 0 => ret (0, [], true)
  | .slice (some ⟨b, o, none⟩) len _ => match hp.getD b .dead with
    | .own e cs => (chk (decide (o + len * n ≤ cs.length))).bind fun _ => ret (len, (cs.drop o).take (len * n), flatT P 6 e)
    | .ro e cs => (chk (decide (o + len * n ≤ cs.length))).bind fun _ => ret (len, (cs.drop o).take (len * n), flatT P 6 e)
    | .dead => stop
  | .string s => (chk (n == 1)).bind fun _ => ret (s.size, bytesOf s, true)
  | _ => stop
def appendA (P : Program) (hp : Hp) (t : TypeId) (s x : Value) : M Res :=
  match P.underlying t with
  | some (.slice e) => (lift (P.info? e)).bind fun i => (lift i.zero).bind fun z => (newsA P hp i.size x).bind fun news => (chk (z.cells.size == i.size && decide (0 < i.size) && decide (0 < i.bytes) && (!flatT P 6 e || news.2.2))).bind fun _ =>
      match s with
      | .slice none 0 0 => (chk (decide (news.1 * i.bytes ≤ most) && decide (news.1 ≤ most))).bind fun _ => (ask (decide (news.1 = 0))).bind fun b =>
          if b = true then ret ⟨.slice none 0 0, hp, []⟩ else ret ⟨.slice (some ⟨hp.length, 0, none⟩) news.1 news.1, hp ++ [.own e news.2.1], []⟩
      | .slice (some ⟨b, 0, none⟩) len cap =>
        match hp.getD b .dead with
        | .own e' cs => (chk (e' == e && decide ((len + news.1) * i.bytes ≤ most) && decide (len + news.1 ≤ most) && decide (len * i.size ≤ cs.length))).bind fun _ => (ask (decide (len + news.1 ≤ cap))).bind fun b1 =>
            if b1 = true then (chk (decide (cap * i.size ≤ cs.length))).bind fun _ => ret ⟨.slice (some ⟨b, 0, none⟩) (len + news.1) cap, hp.set b (.own e (put cs (len * i.size) news.2.1)), [b]⟩
            else (chk (decide (cs.length = len * i.size))).bind fun _ => ret ⟨.slice (some ⟨hp.length, 0, none⟩) (len + news.1) (len + news.1), hp.set b .dead ++ [.own e (cs ++ news.2.1)], [b]⟩
        | _ => stop
      | _ => stop
  | _ => stop
def copyA (P : Program) (hp : Hp) (t : TypeId) (d s : Value) : M Res :=
  match P.underlying t, d with
  | some (.slice e), .slice (some ⟨b, o, none⟩) len _ => (lift (sz P e)).bind fun n => (newsA P hp n s).bind fun news =>
      (wrN P hp b o news.2.2 (news.2.1.take (Nat.min news.1 len * n))).map fun hp => ⟨.int .i64 (Nat.min news.1 len : Nat), hp, [b]⟩
  | _, _ => stop
def unbyte (v : Value) : UInt8 := UInt8.ofNat (intOf v).toNat
def isNilV (P : Program) (t : TypeId) (v : Value) : Option Bool :=
  match P.underlying t, v with
  | some (.pointer _), .pointer none => some true
  | some (.pointer _), .pointer (some _) => some false
  | some (.slice _), .slice none 0 0 => some true
  | some (.slice _), .slice (some _) _ _ => some false
  | some (.func _ _ _), .nilFunc => some true
  | some (.func _ _ _), .func _ _ _ => some false
  | _, _ => none
def convA (P : Program) (hp : Hp) (src dst : TypeId) (x : Value) : M Res :=
  match P.underlying src, P.underlying dst, x with
  | some (.int _), some (.int k), .int _ n => ret ⟨.int k (k.wrap n), hp, []⟩
  | some .string, some .string, .string s => ret ⟨.string s, hp, []⟩
  | some (.slice e), some .string, .slice a l c => match P.underlying e with
      | some (.int .u8) => (newsA P hp 1 (.slice a l c)).bind fun news => (chk (news.2.1.all (isInt .u8))).bind fun _ => ret ⟨.string ⟨(news.2.1.map unbyte).toArray⟩, hp, []⟩
      | _ => stop
  | some .string, some (.slice e), .string s => match P.underlying e with
      | some (.int .u8) => (chk (decide (s.size ≤ most) && sz P e == some 1)).bind fun _ => ret ⟨.slice (some ⟨hp.length, 0, none⟩) s.size s.size, hp ++ [.own e (bytesOf s)], []⟩
      | _ => stop
  | _, _, _ => stop
def envOf (fr : Fr) (x : Operand) : Value := (val fr x).getD undef
/-- What needs no memory at all: the model's own word on values without addresses. -/
def plainA (P : Program) (fr : Fr) (o : Oper) : Option Value :=
  match o.op with
  | .select _ _ => none
  | _ => (vals fr o.op.operands.toList).bind fun vs => if vs.all flat = true then (pureRun P (execOp (envOf fr) o)).bind fun | .value v => if flat v = true then some v else none | _ => none else none
def partV (P : Program) (t : TypeId) (cs : Array Value) (off : Nat) : Option Value :=
  (aggT P t).bind fun g => if g = true then (sz P t).bind fun n => if off + n ≤ cs.size then some (.agg (cs.extract off (off + n))) else none else cs.toList[off]?
def eqAll {α : Type} (f : α → Option Bool) : List α → Option Bool
  | [] => some true
  | x :: xs => (f x).bind fun b => (eqAll f xs).map fun c => b && c
/-- Are two values the same, part for part? -/
def eqA (P : Program) : Nat → TypeId → Value → Value → Option Bool
  | 0, _, _, _ => none
  | d + 1, t, x, y => match P.underlying t, x, y with
    | some .bool, .bool a, .bool b => some (a == b)
    | some (.int _), .int k a, .int k' b => if k = k' then some (a == b) else none
    | some .string, .string a, .string b => some (a == b)
    | some (.struct fs), .agg xs, .agg ys => if P.stoodInHeld t = true then none else
        eqAll (fun f => if f.name = "_" then some true else (partV P f.type xs f.offset).bind fun x => (partV P f.type ys f.offset).bind fun y => eqA P d f.type x y) fs.toList
    | some (.array len e), .agg xs, .agg ys => (sz P e).bind fun n => eqAll (fun i => (partV P e xs (i * n)).bind fun x => (partV P e ys (i * n)).bind fun y => eqA P d e x y) (List.range len)
    | _, _, _ => none
def eqAgg (P : Program) (t : TypeId) (xs ys : Array Value) : M Bool :=
  (chk (xs.toList.all flat1 && ys.toList.all flat1 && !P.eqGuardType P.depth t)).bind fun _ => lift (eqA P 12 t (.agg xs) (.agg ys))
def binA (P : Program) (fr : Fr) (o : Oper) (op : BinOp) (t : TypeId) (v w : Value) : M Value :=
  match op, v, w with
  | .shl, .int k x, .int _ y => (chk (decide (0 ≤ y))).bind fun _ => ret (.int k (k.wrap (x * 2 ^ (min y.toNat k.bits))))
  | .shr, .int k x, .int _ y => (chk (decide (0 ≤ y))).bind fun _ => ret (.int k (x.fdiv (2 ^ (min y.toNat k.bits))))
  | .quo, .int k x, .int j y => (chk (k == j && decide (y ≠ 0))).bind fun _ => ret (.int k (k.wrap (x.tdiv y)))
  | .rem, .int k x, .int j y => (chk (k == j && decide (y ≠ 0))).bind fun _ => ret (.int k (x.tmod y))
  | .add, .string a, .string b => (chk (decide (a.size + b.size ≤ 9223372036854775807))).bind fun _ => ret (.string (a ++ b))
  | .eql, .agg xs, .agg ys => (eqAgg P t xs ys).map fun b => .bool b
  | .neq, .agg xs, .agg ys => (eqAgg P t xs ys).map fun b => .bool !b
  | .eql, v, w => match plainA P fr o with
    | some r => ret r
    | none => if isNilV P t w = some true then (lift (isNilV P t v)).bind fun b => ret (.bool b) else stop
  | .neq, v, w => match plainA P fr o with
    | some r => ret r
    | none => if isNilV P t w = some true then (lift (isNilV P t v)).bind fun b => ret (.bool !b) else stop
  | _, _, _ => lift (plainA P fr o)
/-- Neither a struct, a list of results, nor a function. -/
def lvl0 : Value → Bool
  | .agg _ | .tuple _ | .func _ _ _ => false
  | _ => true
def lvlC : Value → Bool
  | .tuple _ => false
  | _ => true
abbrev CallF := FuncId → List Value → Hp → M Res
def parts (fr : Fr) : List (Nat × Operand) → Option (List (Nat × Value))
  | [] => some []
  | (i, x) :: r => (val fr x).bind fun v => (parts fr r).bind fun vs => some ((i, v) :: vs)
def optV (fr : Fr) : Option Operand → Option (Option Value)
  | none => some none
  | some x => (val fr x).map some
def bodied (P : Program) (g : FuncId) : Bool := match P.funcs[g]? with | some fn => fn.body.isSome | none => false
/-- One operation. -/
def opA (P : Program) (call : CallF) (fr : Fr) (hp : Hp) (o : Oper) : M Res :=
  let keep (v : Value) : Res := ⟨v, hp, []⟩
  match o.op with
  | .move x | .assign x => (lift (val fr x)).map keep
  | .pick c a b => (lift (val fr c)).bind fun c => match c with
      | .bool c => (ask c).bind fun c => if c = true then (lift (val fr a)).map keep else (lift (val fr b)).map keep
      | _ => stop
  | .alloc e => (lift (zeroT P e)).bind fun z => (chk (z.cells.toList.all flat1)).bind fun _ => newA P hp e z.cells.toList
  | .box e x => (lift (val fr x)).bind fun v => (chk (lvlC v)).bind fun _ => newA P hp e v.cells.toList
  | .load t a => (lift (val fr a)).bind fun a => (loadA P hp t a).map keep
  | .store t a x => (lift (val fr a)).bind fun a => (lift (val fr x)).bind fun v => (chk (lvlC v)).bind fun _ => storeA P hp t a v
  | .nilCheck x => (lift (val fr x)).bind fun v => match v with | .pointer (some a) => ret (keep (.pointer (some a))) | _ => stop
  | .fieldAddr s x f => (lift (val fr x)).bind fun v => (lift (fieldA P s v f)).map keep
  | .indexAddr t x i => (lift (val fr x)).bind fun v => (lift (val fr i)).bind fun i => (indexA P t v i).map keep
  | .slice t x lo hi none => (lift (val fr x)).bind fun v => (lift (optV fr lo)).bind fun lo => (lift (optV fr hi)).bind fun hi => (cutA P hp t v lo hi).map keep
  | .field t x f => (lift (val fr x)).bind fun v => match v, P.underlying t with
      | .agg cs, some (.struct fs) => (lift (fs[f]?)).bind fun g => (partA P g.type cs g.offset).map keep
      | _, _ => stop
  | .index t x i => (lift (val fr x)).bind fun v => (lift (val fr i)).bind fun i => match P.underlying t, v, i with
      | some (.array len e), .agg cs, .int _ i => (lift (sz P e)).bind fun n => (chk (inside i len)).bind fun _ => (partA P e cs (i.toNat * n)).map keep
      | some .string, .string s, .int _ i => (chk (inside i s.size)).bind fun _ => ret (keep (.int .u8 ((s.data.toList.getD i.toNat 0).toNat : Nat)))
      | _, _, _ => stop
  | .extract x i => (lift (val fr x)).bind fun v => match v with | .tuple vs => (lift (vs[i]?)).map keep | _ => stop
  | .build t ps => (lift (parts fr ps.toList)).bind fun ps => (chk (ps.all fun p => lvlC p.2)).bind fun _ => (buildA P t ps).map keep
  | .buildSlice t n ps => (lift (parts fr ps.toList)).bind fun ps => (chk (ps.all fun p => lvlC p.2)).bind fun _ => buildSliceA P hp t n ps
  | .makeSlice t l c => (lift (val fr l)).bind fun l => (lift (val fr c)).bind fun c => makeSliceA P hp t l c
  | .makeFunc fn f c => (lift (vals fr f.toList)).bind fun f => (lift (vals fr c.toList)).bind fun c => (chk (f.all lvl0 && c.all lvl0)).bind fun _ => ret (keep (.func fn f.toArray c.toArray))
  | .convert src dst x => (lift (val fr x)).bind fun v => convA P hp src dst v
  | .binOp op t x y _ => (lift (val fr x)).bind fun v => (lift (val fr y)).bind fun w => (binA P fr o op t v w).map keep
  | .call { callee := .builtin .append, args := as, argTypes := ts } => (lift (vals fr as.toList)).bind fun vs => match vs, ts[0]?, ts[1]? with
      | [s, x], some t, some t2 => (match P.underlying t2 with | some (.slice _) | some .string => appendA P hp t s x | _ => stop)
      | _, _, _ => stop
  | .call { callee := .builtin .copy, args := as, argTypes := ts } => (lift (vals fr as.toList)).bind fun vs => match vs, ts[0]? with
      | [d, s], some t => copyA P hp t d s
      | _, _ => stop
  | .call { callee := .builtin .len, args := as, argTypes := ts } => (lift (vals fr as.toList)).bind fun vs => match vs, (ts[0]?).bind P.underlying with
      | [.slice _ n _], some (.slice _) => ret (keep (.int .i64 n))
      | [.string s], some .string => ret (keep (.int .i64 s.size))
      | [_], some (.array n _) => ret (keep (.int .i64 n))
      | _, _ => stop
  | .call { callee := .value f, args := as, argTypes := _ } => (lift (val fr f)).bind fun fv => (lift (vals fr as.toList)).bind fun vs => match fv with
      | .func (.func g) first captured => (chk (bodied P g)).bind fun _ => call g (first.toList ++ vs ++ captured.toList) hp
      | _ => stop
  | _ => (lift (plainA P fr o)).map keep
/-- One operation, its value in the form that is told. -/
def opS (P : Program) (call : CallF) (fr : Fr) (hp : Hp) (o : Oper) : M Res := (opA P call fr hp o).bind fun r => (see r.v).map fun v => ⟨v, r.hp, r.wr⟩
def putT (fr : Fr) : Option Tmp → Value → Fr
  | some d, v => fr.set d (some v)
  | none, _ => fr
/-- Is an operation wanted? -/
def wantA (ops : Array Oper) (fr : Fr) (o : Oper) : M Bool :=
  match o.guard with
  | none => ret true
  | some (j, want) =>
    match (ops[j]?).bind (·.dst) with
    | none => ret false
    | some d => match fr.get d with
      | some (.bool b) => (ask b).bind fun b => ret (b == want)
      | some (.tuple _) => ret false
      | _ => stop
def idsV1 : Value → List Nat
  | .pointer (some a) | .slice (some a) _ _ => [a.block]
  | .map (some r) => [r]
  | _ => []
def idsVC : Value → List Nat
  | .agg cs => cs.toList.flatMap idsV1
  | .func _ f c => f.toList.flatMap idsV1 ++ c.toList.flatMap idsV1
  | v => idsV1 v
def idsV : Value → List Nat
  | .tuple cs => cs.toList.flatMap idsVC
  | v => idsVC v
def blkIds (P : Program) : Blk → List Nat
  | .own e cs => if flatT P 6 e = true then [] else cs.flatMap idsVC
  | .ro e cs => if flatT P 6 e = true then [] else cs.flatMap idsVC
  | .dead => []
/-- The blocks that are led to. -/
def reach (P : Program) (hp : Hp) : Nat → List Nat → List Nat → List Nat
  | 0, _, seen => seen
  | _ + 1, [], seen => seen
  | n + 1, b :: r, seen => if seen.contains b = true then reach P hp n r seen else reach P hp n (blkIds P (hp.getD b .dead) ++ r) (seen ++ [b])
def posIn : List Nat → Nat → Option Nat
  | [], _ => none
  | x :: xs, b => if x == b then some 0 else (posIn xs b).map (· + 1)
def mapL {α β : Type} (f : α → Option β) : List α → Option (List β)
  | [] => some []
  | x :: xs => (f x).bind fun y => (mapL f xs).bind fun ys => some (y :: ys)
def ren0 (f : Nat → Option Nat) : Value → Option Value
  | .pointer (some a) => (f a.block).map fun b => .pointer (some ⟨b, a.off, a.spot⟩)
  | .slice (some a) l c => (f a.block).map fun b => .slice (some ⟨b, a.off, a.spot⟩) l c
  | v => if flat1 v = true then some v else none
def ren1 (f : Nat → Option Nat) : Value → Option Value
  | .func fn xs cs => (mapL (ren0 f) xs.toList).bind fun xs => (mapL (ren0 f) cs.toList).map fun cs => .func fn xs.toArray cs.toArray
  | v => ren0 f v
def renC (f : Nat → Option Nat) : Value → Option Value
  | .agg cs => (mapL (ren1 f) cs.toList).map fun cs => .agg cs.toArray
  | v => ren1 f v
def ren (f : Nat → Option Nat) : Value → Option Value
  | .tuple cs => (mapL (renC f) cs.toList).map fun cs => .tuple cs.toArray
  | v => renC f v
def renB (P : Program) (f : Nat → Option Nat) : Blk → Option Blk
  | .dead => some .dead
  | .own e cs => if flatT P 6 e = true then some (.own e cs) else (mapL (ren1 f) cs).map fun cs => .own e cs
  | .ro e cs => if flatT P 6 e = true then some (.ro e cs) else (mapL (ren1 f) cs).map fun cs => .ro e cs
def deep : Nat := 4096
def argIds (P : Program) (hp : Hp) (args : List Value) : List Nat := reach P hp deep (args.flatMap idsV) []
def backTo (ids : List Nat) (base j : Nat) : Option Nat := if j < ids.length then ids[j]? else some (base + (j - ids.length))
def setAll (P : Program) (f : Nat → Option Nat) (ids : List Nat) (h2 : Hp) : List Nat → Hp → Option Hp
  | [], hp => some hp
  | j :: r, hp => (ids[j]?).bind fun b => (renB P f (h2.getD j .dead)).bind fun k => setAll P f ids h2 r (hp.set b k)
/-- A call: the callee is run over what its arguments lead to. -/
def callA (P : Program) (inl : CallF) (g : FuncId) (args : List Value) (hp : Hp) : M Res :=
  let ids := argIds P hp args
  (lift (mapL (ren (posIn ids)) args)).bind fun args' => (lift (mapL (fun b => renB P (posIn ids) (hp.getD b .dead)) ids)).bind fun sub =>
    (inl g args' sub).bind fun r => (chk (decide (ids.length ≤ r.hp.length) && r.wr.all fun j => (sub.getD j .dead).isOwn)).bind fun _ =>
      (lift (ren (backTo ids hp.length) r.v)).bind fun v =>
      (lift (setAll P (backTo ids hp.length) ids r.hp r.wr hp)).bind fun hp1 =>
      (lift (mapL (renB P (backTo ids hp.length)) (r.hp.drop ids.length))).bind fun news =>
        ret ⟨v, hp1 ++ news, (r.wr.filterMap fun j => ids[j]?)⟩
/-- A call whose result the oracle may tell. -/
def toldA (P : Program) (inl : CallF) : CallF := fun g args hp o =>
  match o with
  | (0, .call r) :: o => some ⟨r, o, true, [CallSpec P g args hp r]⟩
  | (0, _) :: _ => none
  | (k + 1, i) :: o => inl g args hp ((k, i) :: o)
  | [] => inl g args hp []
def idsO (fr : Fr) (x : Operand) : List Nat := match val fr x with | some v => idsV v | none => []
/-- What an operation may look at or change. -/
def footA (P : Program) (fr : Fr) (hp : Hp) (o : Oper) : List Nat :=
  match o.op with
  | .load _ a | .store _ a _ => idsO fr a
  | .slice _ x _ _ _ | .convert _ _ x => idsO fr x
  | .call { callee := .builtin _, args := as, .. } => as.toList.flatMap (idsO fr)
  | .call { callee := .value f, args := as, .. } => match val fr f, vals fr as.toList with
      | some (.func _ first captured), some vs => argIds P hp (first.toList ++ vs ++ captured.toList)
      | _, _ => []
  | _ => []
/-- What each operation looked at; what it changed, or made (from, to). -/
structure Step where
  rd : List Nat
  wr : List Nat
  lo : Nat
  hi : Nat
def hits (s : Step) (b : Nat) : Bool := s.wr.contains b || (s.lo ≤ b && b < s.hi)
def clash (s t : Step) : Bool := t.rd.any (hits s) || t.wr.any (hits s) || s.rd.any (hits t) || s.wr.any (hits t)
def opsA (P : Program) (call : CallF) (all : Array Oper) : List Oper → Fr → Hp → List Nat → List Step → M (Fr × Hp × List Nat × List Step)
  | [], fr, hp, wr, st => ret (fr, hp, wr, st.reverse)
  | o :: os, fr, hp, wr, st => (wantA all fr o).bind fun b =>
      if b = true then (opS P call fr hp o).bind fun r => opsA P call all os (putT fr o.dst r.v) r.hp (r.wr ++ wr) (⟨footA P fr hp o, r.wr, hp.length, r.hp.length⟩ :: st)
      else opsA P call all os (putT fr o.dst undef) hp wr (⟨[], [], hp.length, hp.length⟩ :: st)
/-- The edges lead back; the pairs that no edges order stand apart. -/
def calmS (ops : Array Oper) : Bool :=
  let b := Region.before ops
  (List.range ops.size).all fun j => ((ops.getD j default).after.toList.all fun e => !Region.binds .any e || decide (e.on < j)) && (List.range j).all fun i => (b.getD j 0).testBit i || Oper.apart ops (ops.getD i default) (ops.getD j default)
def calmC : Code → Bool
  | .region _ ops draw => !draw || calmS ops
  | .seq a b => calmC a && calmC b
  | .cond _ a b => calmC a && calmC b
  | .block _ a => calmC a
  | .loop a => calmC a
  | _ => true
def Calm (P : Program) : Prop := ∀ (f : FuncId) (fn : Func) (c : Code), P.funcs[f]? = some fn → fn.body = some c → calmC c = true
def idle (s : Step) : Bool := s.rd.isEmpty && s.wr.isEmpty && decide (s.hi ≤ s.lo)
def busy : Nat → List Step → List (Nat × Step)
  | _, [] => []
  | i, s :: r => if idle s = true then busy (i + 1) r else (i, s) :: busy (i + 1) r
/-- Do those that clash stand in an order? -/
def calm (ops : Array Oper) (st : List Step) : Bool :=
  let l := busy 0 st
  l.all fun q => l.all fun p => !decide (p.1 < q.1) || !clash p.2 q.2 || ((Region.before ops).getD q.1 0).testBit p.1
/-- A frame: what is known of it. -/
def frOf (n : Nat) : List (Nat × Value) → Fr
  | [] => .empty n
  | (t, v) :: r => (frOf n r).set t (some v)
def keepT (fr : Fr) : List Nat → List (Nat × Value)
  | [] => []
  | t :: r => match fr.get t with
    | some v => (t, v) :: keepT fr r
    | none => keepT fr r
def frIds : List (Nat × Value) → List Nat
  | [] => []
  | p :: r => idsV p.2 ++ frIds r
def renF (f : Nat → Option Nat) : List (Nat × Value) → Option (List (Nat × Value))
  | [] => some []
  | (t, v) :: r => (ren f v).bind fun v => (renF f r).map fun r => (t, v) :: r
/-- Only what is kept of the frame, and what that leads to. -/
def tidy (P : Program) (m : Nat) (keep : List Nat) (o : Out) : Option Out :=
  let l := keepT o.fr keep
  let ids := reach P o.hp deep (List.range m ++ frIds l) []
  (renF (posIn ids) l).bind fun l => (mapL (fun b => renB P (posIn ids) (o.hp.getD b .dead)) ids).bind fun hp =>
    if ids.take m = List.range m then some ⟨o.ex, frOf o.fr.n l, hp, o.wr.filter (· < m)⟩ else none
def iter (f : Fr → Hp → M Out) : Nat → Fr → Hp → List Nat → M Out
  | 0, _, _, _ => stop
  | n + 1, fr, hp, wr => (f fr hp).bind fun r => match r.ex with
    | .normal => iter f n r.fr r.hp (r.wr ++ wr)
    | e => ret ⟨e, r.fr, r.hp, r.wr ++ wr⟩
def run (P : Program) (call : CallF) (m n : Nat) : Code → Fr → Hp → M Out
  | .skip, fr, hp => ret ⟨.normal, fr, hp, []⟩
  | .label _, fr, hp => ret ⟨.normal, fr, hp, []⟩
  | .region _ ops draw, fr, hp => (opsA P call ops ops.toList fr hp [] []).bind fun r => (chk (!draw || calm ops r.2.2.2)).bind fun _ => ret ⟨.normal, r.1, r.2.1, r.2.2.1⟩
  | .seq a b, fr, hp => (run P call m n a fr hp).bind fun r => match r.ex with
    | .normal => (run P call m n b r.fr r.hp).map fun q => ⟨q.ex, q.fr, q.hp, q.wr ++ r.wr⟩
    | e => ret ⟨e, r.fr, r.hp, r.wr⟩
  | .cond c x y, fr, hp => fun o => match o with
    | (0, .loop keep r) :: o => match tidy P m keep ⟨.normal, fr, hp, []⟩ with
      | some t => some ⟨r, o, true, [CodeSpec P m (.cond c x y) t.fr t.hp r]⟩
      | none => none
    | o => ((lift (val fr c)).bind fun v => match v with
      | .bool b => (ask b).bind fun b => if b = true then run P call m n x fr hp else run P call m n y fr hp
      | _ => stop) o
  | .block id c, fr, hp => (run P call m n c fr hp).map fun r => match r.ex with
    | .exit j => if j = id then ⟨.normal, r.fr, r.hp, r.wr⟩ else ⟨.exit j, r.fr, r.hp, r.wr⟩
    | e => ⟨e, r.fr, r.hp, r.wr⟩
  | .loop c, fr, hp => fun o => match o with
    | (0, .loop keep r) :: o => match tidy P m keep ⟨.normal, fr, hp, []⟩ with
      | some t => some ⟨r, o, true, [CodeSpec P m (.loop c) t.fr t.hp r]⟩
      | none => none
    | (0, _) :: _ => none
    | (k + 1, i) :: o => iter (run P call m n c) n fr hp [] ((k, i) :: o)
    | [] => iter (run P call m n c) n fr hp [] []
  | .exit id, fr, hp => ret ⟨.exit id, fr, hp, []⟩
  | .ret, fr, hp => ret ⟨.ret, fr, hp, []⟩
  | _, _, _ => stop
def resA (P : Program) (fr : Fr) (hp : Hp) : List ResultVar → M (List Value)
  | [] => ret []
  | .tmp t :: r => (lift (fr.get t)).bind fun v => (resA P fr hp r).map fun vs => v :: vs
  | .cell a t :: r => (lift (fr.get a)).bind fun x => (loadA P hp t x).bind fun v => (resA P fr hp r).map fun vs => v :: vs
def tie : List Value → Value
  | [v] => v
  | vs => .tuple vs.toArray
/-- What a function hands back: its result, and what that and the first blocks lead to. -/
def outA (P : Program) (m : Nat) (v : Value) (hp : Hp) (wr : List Nat) : Option Res :=
  let ids := reach P hp deep (List.range m ++ idsV v) []
  (ren (posIn ids) v).bind fun v => (mapL (fun b => renB P (posIn ids) (hp.getD b .dead)) ids).bind fun hp =>
    if ids.take m = List.range m then some ⟨v, hp, wr.filter (· < m)⟩ else none
def frArgs (fr : Fr) : Nat → List Value → Fr
  | _, [] => fr
  | i, v :: vs => (frArgs fr (i + 1) vs).set i (some v)
def frame0 (fn : Func) (args : List Value) : Fr := frArgs (.empty fn.ntmps) 0 args
/-- A function's run, over the blocks that its arguments lead to (they come first). -/
def exec (P : Program) : Nat → CallF
  | 0 => fun _ _ _ => stop
  | n + 1 => fun f args hp =>
    (lift (P.funcs[f]?)).bind fun fn => (lift fn.body).bind fun c => (chk (decide (args.length ≤ fn.ntmps))).bind fun _ =>
      (run P (callA P (toldA P (exec P n))) hp.length n c (frame0 fn args) hp).bind fun r => match r.ex with
        | .exit _ => stop
        | _ => (resA P r.fr r.hp fn.results.toList).bind fun vs => (chk (vs.all lvlC)).bind fun _ => lift (outA P hp.length (tie vs) r.hp r.wr)
def go {α : Type} (x : M α) (o : Orcs) : Option (α × Bool × List Prop) := (x o).bind fun r => match r.orc with | [] => some (r.a, r.ok, r.owe) | _ => none
end Go.Proofs.Ytfjlaplhglfcaaa.Ex
