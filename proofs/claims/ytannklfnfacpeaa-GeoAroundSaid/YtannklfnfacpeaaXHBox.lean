/- Boxes of points and spans, the side of a line as a number, and what a round of geo.Side knows. -/
import Derived.Test.YtannklfnfacpeaaXHSides
import Derived.Test.YtannklfnfacpeaaXHFits
import Derived.Test.YtannklfnfacpeaaXx1
namespace Go.Proofs.Ytannklfnfacpeaa.X
open Go.RowKit Go.Shelf Go.Proofs.YtannklfnfacpeaaW.PrintWords Go.Proofs.YtannklfnfacpeaaW.PrintLast Go.Proofs.YtannklfnfacpeaaW.PrintMore Go.Proofs.Ytannklfnfacpeaa.HKit
attribute [local go_sem] Oper.semAt_some
set_option linter.unusedVariables false
set_option linter.unusedSimpArgs false
/-- Block B is a point's box. -/
def Boxed2 (W : World) (B : Nat) (p q : Int) : Prop := W.heap[B]? = some (.cells #[.int .i64 p, .int .i64 q] 23 (0, 0))
theorem Boxed2.new (W : World) (p q : Int) : Boxed2 (W.alloc (.cells #[.int .i64 p, .int .i64 q] 23)) W.heap.size p q := World.alloc_heap_new W _
theorem Boxed2.lt {W : World} {B : Nat} {p q : Int} (h : Boxed2 W B p q) : B < W.heap.size := (Array.getElem?_eq_some_iff.1 h).1
theorem Boxed2.alloc {W : World} {B : Nat} {p q : Int} (h : Boxed2 W B p q) (o : Obj) : Boxed2 (W.alloc o) B p q := (Below.heap_alloc _ _ _ h.lt).trans h
theorem Boxed2.below {W W' : World} {B n : Nat} {p q : Int} (h : Boxed2 W B p q) (hb : Below n W W') (hn : B < n) : Boxed2 W' B p q := (hb.block B hn).trans h
theorem Boxed2.c0 {W : World} {B : Nat} {p q : Int} (h : Boxed2 W B p q) : W.cell? ⟨B, 0, none⟩ = some (.int .i64 p) := by simp [World.cell?, show W.heap[B]? = _ from h]
theorem Boxed2.c1 {W : World} {B : Nat} {p q : Int} (h : Boxed2 W B p q) : W.cell? ⟨B, 1, none⟩ = some (.int .i64 q) := by simp [World.cell?, show W.heap[B]? = _ from h]
theorem Boxed2.set {W : World} {B : Nat} {p q : Int} (h : Boxed2 W B p q) {g j : Nat} (hne : B ≠ g) (v : Value) : Boxed2 (W.setCell ⟨g, j, none⟩ v) B p q := (Below.heap_setCell _ _ _ _ (by exact hne)).trans h
theorem Boxed.below {W W' : World} {B n : Nat} {t : TypeId} {v : Value} (h : Boxed W B t v) (hb : Below n W W') (hn : B < n) : Boxed W' B t v := (hb.block B hn).trans h
/-- The side of a line, as geo.turn tells it. -/
def turnV (a b c d e f : Int) : Int := (geo_turn.f a b c d e f).getD 0
theorem turn_some (a b c d e f : Int) : geo_turn.f a b c d e f = some (turnV a b c d e f) := by
  have h : ∃ r, geo_turn.f a b c d e f = some r := by
    simp only [geo_turn.f, geo_cross.f, cmp_Compare_int.f, cmp_isNaN_int.f, Option.bind_some]
    repeat' split
    all_goals exact ⟨_, rfl⟩
  obtain ⟨r, hr⟩ := h
  simp [turnV, hr]
def overV (a b c d : Int) : Bool := (geo_over.f a b c d).getD false
theorem over_some (a b c d : Int) : geo_over.f a b c d = some (overV a b c d) := by
  have h : ∃ r, geo_over.f a b c d = some r := by
    unfold geo_over.f
    split <;> exact ⟨_, rfl⟩
  obtain ⟨r, hr⟩ := h
  simp [overV, hr]
def turnP (x : S23 × S23) (p q : Int) : Int := turnV x.1.f0 x.1.f1 x.2.f0 x.2.f1 p q
/-- Is the point on the side? -/
def onSide (p q : Int) (x : S23 × S23) : Bool := if turnP x p q = 0 then (if overV x.1.f0 x.2.f0 p p = true then overV x.1.f1 x.2.f1 q q else false) else false
def wind (p q : Int) (r : Int) (x : S23 × S23) : Int :=
  if x.1.f1 ≤ q ∧ x.2.f1 > q ∧ turnP x p q > 0 then wrap64 (r + 1) else if x.2.f1 ≤ q ∧ x.1.f1 > q ∧ turnP x p q < 0 then wrap64 (r - 1) else r
def winds (p q : Int) (xs : List (S23 × S23)) : Int := xs.foldl (wind p q) 0
theorem winds_snoc (p q : Int) (pre : List (S23 × S23)) (x : S23 × S23) : winds p q (pre ++ [x]) = wind p q (winds p q pre) x := by simp [winds]
def sideV (l : List S23) (p q : Int) : Int := if (upt l l.length).any (onSide p q) then 0 else if winds p q (upt l l.length) = 0 then -1 else 1
theorem one_point {W : World} {B : Nat} {p q : Int} (h : Boxed2 W B p q) : Kd.C k23 W (some ⟨B, 0, none⟩) ([(⟨p, q⟩ : S23)] : List S23).length [(⟨p, q⟩ : S23)] := by
  refine ⟨rfl, by simp, fun _ => ⟨_, rfl, fun j x hj => ?_⟩⟩
  match j, hj with
  | 0, hj =>
    obtain rfl : (⟨p, q⟩ : S23) = x := by simpa using hj
    refine ⟨[.int .i64 p, .int .i64 q], rfl, k23_mk W _, fun i u hi => ?_⟩
    match i, hi with
    | 0, hi =>
      obtain rfl : Value.int .i64 p = u := by simpa using hi
      exact h.c0
    | 1, hi =>
      obtain rfl : Value.int .i64 q = u := by simpa using hi
      exact h.c1
    | i + 2, hi => simp at hi
  | j + 1, hj => simp at hj
/-- What a round of Side knows of its boxes. -/
structure SideSt (W : World) (g rb : Nat) (p q r : Int) (B1 B2 : Nat) (x : S23 × S23) : Prop where
  bP : Boxed2 W g p q
  bR : Boxed W (g + 1) 3 (.int .i64 0)
  bE : Boxed W (g + 1 + 1) 24 (.int .i64 0)
  bW : Boxed W rb 3 (.int .i64 r)
  b1 : Boxed2 W B1 x.1.f0 x.1.f1
  b2 : Boxed2 W B2 x.2.f0 x.2.f1
theorem SideSt.below {W W' : World} {g rb : Nat} {p q r : Int} {B1 B2 : Nat} {x : S23 × S23} (h : SideSt W g rb p q r B1 B2 x) (hb : Below W.heap.size W W') : SideSt W' g rb p q r B1 B2 x :=
  ⟨h.bP.below hb h.bP.lt, Boxed.below h.bR hb h.bR.lt, Boxed.below h.bE hb h.bE.lt, Boxed.below h.bW hb h.bW.lt, h.b1.below hb h.b1.lt, h.b2.below hb h.b2.lt⟩
/-- Between two rounds; and where a round has left. -/
def SideI (w : World) (rb : Nat) (p q : Int) (pre : List (S23 × S23)) (W : World) : Prop :=
  (Aside0 (pre.any (onSide p q) = false) ∧ Boxed W rb 3 (.int .i64 (winds p q pre)) ∧ Boxed2 W w.heap.size p q ∧ Boxed W (w.heap.size + 1) 3 (.int .i64 0) ∧ Boxed W (w.heap.size + 1 + 1) 24 (.int .i64 0)) ∧ Below w.heap.size w W
def SideX (w : World) (p q : Int) (c : Code) (pre : List (S23 × S23)) (W : World) : Prop :=
  (c = .ret ∧ Aside0 (pre.any (onSide p q) = true) ∧ Boxed W (w.heap.size + 1) 3 (.int .i64 0) ∧ Boxed W (w.heap.size + 1 + 1) 24 (.int .i64 0)) ∧ Below w.heap.size w W
theorem keepsO_of_below {W W' : World} (h : Below W.heap.size W W') : KeepsOthers W W' :=
  ⟨h.size, fun k o hk _ => (h.block k (Array.getElem?_eq_some_iff.1 hk).1).trans hk⟩
section
variable {w W W' : World} {g rb B Bs B1 B2 : Nat} {p q : Int} {pre : List (S23 × S23)} {x : S23 × S23} {a : Act}
theorem side_stay (st : SideSt W' w.heap.size rb p q (winds p q pre) B1 B2 x) (hB : Below w.heap.size w W') (hW : Below W.heap.size W W') (hs : w.heap.size ≤ W.heap.size) (ht : pre.any (onSide p q) = false)
    (h1 : onSide p q x = false) (h2 : wind p q (winds p q pre) x = winds p q pre) : ownPostG B (KpS w.heap.size Bs) (SideI w rb p q) (SideX w p q) (pre ++ [x]) W .normal a W' :=
  ⟨(keepsO_of_below hW).from _, ⟨hW.mono hs, fun hb => hW.block _ hb⟩, ⟨⟨by rw [List.any_append, ht]; simp [h1]⟩, by rw [winds_snoc, h2]; exact st.bW, st.bP, st.bR, st.bE⟩, hB⟩
theorem side_step {r : Int} (st : SideSt W' w.heap.size rb p q (winds p q pre) B1 B2 x) (hB : Below w.heap.size w W') (hW : Below W.heap.size W W') (hs : w.heap.size ≤ W.heap.size) (ht : pre.any (onSide p q) = false)
    (hr0 : w.heap.size + 1 + 1 < rb) (hrB : rb ≠ Bs) (h1 : onSide p q x = false) (h2 : wind p q (winds p q pre) x = r) : ownPostG B (KpS w.heap.size Bs) (SideI w rb p q) (SideX w p q) (pre ++ [x]) W .normal a (W'.setCell ⟨rb, 0, none⟩ (.int .i64 r)) :=
  ⟨((keepsO_of_below hW).trans (KeepsOthers.setCell _ _ _)).from _, ⟨(hW.mono hs).setCell (p := ⟨rb, 0, none⟩) (by show w.heap.size ≤ rb; omega) _, fun hb => (Below.heap_setCell _ _ _ _ (by show Bs ≠ rb; omega)).trans (hW.block _ hb)⟩,
    ⟨⟨by rw [List.any_append, ht]; simp [h1]⟩, by rw [winds_snoc, h2]; exact st.bW.set _, st.bP.set (by omega) _, st.bR.other (by omega) _, st.bE.other (by omega) _⟩, hB.setCell (p := ⟨rb, 0, none⟩) (by show w.heap.size ≤ rb; omega) _⟩
theorem side_leave (st : SideSt W' w.heap.size rb p q (winds p q pre) B1 B2 x) (hB : Below w.heap.size w W') (hW : Below W.heap.size W W') (h1 : onSide p q x = true) :
    ownPostG B (KpS w.heap.size Bs) (SideI w rb p q) (SideX w p q) (pre ++ [x]) W .ret a ((W'.setCell ⟨w.heap.size + 1, 0, none⟩ (.int .i64 0)).setCell ⟨w.heap.size + 1 + 1, 0, none⟩ (.int .i64 0)) :=
  ⟨(((keepsO_of_below hW).trans (KeepsOthers.setCell _ _ _)).trans (KeepsOthers.setCell _ _ _)).from _, ⟨rfl, ⟨by rw [List.any_append]; simp [h1]⟩, (st.bR.set _).other (by omega) _, (st.bE.other (by omega) _).set _⟩,
    (hB.setCell (p := ⟨w.heap.size + 1, 0, none⟩) (by show w.heap.size ≤ w.heap.size + 1; omega) _).setCell (p := ⟨w.heap.size + 1 + 1, 0, none⟩) (by show w.heap.size ≤ w.heap.size + 1 + 1; omega) _⟩
end
end Go.Proofs.Ytannklfnfacpeaa.X
