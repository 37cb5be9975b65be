/- The contract of geo.Touches: do a segment and a rectangle share a point? -/
import Derived.Test.YtannklfnfacpeaaXHBox
namespace Go.Proofs.Ytannklfnfacpeaa.X
open Go.RowKit Go.Shelf Go.Proofs.YtannklfnfacpeaaW.PrintWords Go.Proofs.YtannklfnfacpeaaW.PrintLast Go.Proofs.YtannklfnfacpeaaW.PrintMore Go.Proofs.Ytannklfnfacpeaa.HKit
def maxI (x y : Int) : Int := if x < y then y else x
def minI (x y : Int) : Int := if y < x then y else x
theorem max2_I (k k' : IntKind) (x y : Int) : Builtin.max2 (.int k x) (.int k' y) = pure (.int k (maxI x y)) := max2_int k k' x y
theorem min2_I (k k' : IntKind) (x y : Int) : Builtin.min2 (.int k x) (.int k' y) = pure (.int k (minI x y)) := min2_int k k' x y
attribute [local go_sem] max2_I min2_I max_two min_two
set_option linter.unusedVariables false
set_option linter.unusedSimpArgs false
theorem points_of {W : World} {B : Nat} {l : List S23} (hm : l.length ≤ 64) (h : ∀ j x, l[j]? = some x → W.cell? ⟨B, 2 * j, none⟩ = some (.int .i64 x.f0) ∧ W.cell? ⟨B, 2 * j + 1, none⟩ = some (.int .i64 x.f1)) :
    Kd.C k23 W (some ⟨B, 0, none⟩) l.length l := by
  refine ⟨rfl, Nat.le_trans hm (by decide), fun _ => ⟨_, rfl, fun j x hj => ?_⟩⟩
  refine ⟨[.int .i64 x.f0, .int .i64 x.f1], rfl, k23_mk W _, fun i u hi => ?_⟩
  have e : (⟨B, 0, none⟩ : Addr).add (j * 2 + i) = ⟨B, 2 * j + i, none⟩ := by
    unfold Addr.add
    by_cases hk0 : j * 2 + i = 0
    · rw [if_pos hk0]; congr 1; omega
    · rw [if_neg hk0]; show (⟨B, 0 + (j * 2 + i), none⟩ : Addr) = _; congr 1; omega
  match i, hi with
  | 0, hi =>
    obtain rfl : Value.int .i64 x.f0 = u := by simpa using hi
    exact (congrArg W.cell? e).trans (h j x hj).1
  | 1, hi =>
    obtain rfl : Value.int .i64 x.f1 = u := by simpa using hi
    exact (congrArg W.cell? e).trans (h j x hj).2
  | i + 2, hi => simp at hi
def cornersOf (x0 x1 y0 y1 : Int) : List S23 := [⟨x0, y0⟩, ⟨x0, y1⟩, ⟨x1, y0⟩, ⟨x1, y1⟩]
structure TouchSt (W : World) (g : Nat) (a0 a1 b0 b1 x0 x1 y0 y1 : Int) : Prop where
  cA : W.heap[g]? = some (.cells #[.int .i64 a0, .int .i64 a1] 23 (0, 0))
  cB : W.heap[g + 1]? = some (.cells #[.int .i64 b0, .int .i64 b1] 23 (0, 0))
  cX : W.heap[g + 1 + 1]? = some (.cells #[.int .i64 x0, .int .i64 x1] 44 (0, 0))
  cY : W.heap[g + 1 + 1 + 1]? = some (.cells #[.int .i64 y0, .int .i64 y1] 44 (0, 0))
  cC : W.heap[g + 1 + 1 + 1 + 1]? = some (.cells #[.int .i64 x0, .int .i64 y0, .int .i64 x0, .int .i64 y1, .int .i64 x1, .int .i64 y0, .int .i64 x1, .int .i64 y1] 70 (0, 0))
section
variable {W W' : World} {g n : Nat} {a0 a1 b0 b1 x0 x1 y0 y1 : Int}
theorem TouchSt.below (h : TouchSt W g a0 a1 b0 b1 x0 x1 y0 y1) (hb : Below n W W') (hn : g + 5 ≤ n) : TouchSt W' g a0 a1 b0 b1 x0 x1 y0 y1 :=
  ⟨(hb.block _ (by omega)).trans h.cA, (hb.block _ (by omega)).trans h.cB, (hb.block _ (by omega)).trans h.cX, (hb.block _ (by omega)).trans h.cY, (hb.block _ (by omega)).trans h.cC⟩
theorem cell_of {W : World} {B j : Nat} {cs : Array Value} {t : TypeId} {v : Value} (h : W.heap[B]? = some (.cells cs t (0, 0))) (hv : cs[j]? = some v) : W.cell? ⟨B, j, none⟩ = some v := by
  simp [World.cell?, h, hv]
theorem TouchSt.k0 (h : TouchSt W g a0 a1 b0 b1 x0 x1 y0 y1) : W.cell? ⟨g, 0, none⟩ = some (.int .i64 a0) := cell_of h.cA rfl
theorem TouchSt.k1 (h : TouchSt W g a0 a1 b0 b1 x0 x1 y0 y1) : W.cell? ⟨g, 1, none⟩ = some (.int .i64 a1) := cell_of h.cA rfl
theorem TouchSt.k2 (h : TouchSt W g a0 a1 b0 b1 x0 x1 y0 y1) : W.cell? ⟨g + 1, 0, none⟩ = some (.int .i64 b0) := cell_of h.cB rfl
theorem TouchSt.k3 (h : TouchSt W g a0 a1 b0 b1 x0 x1 y0 y1) : W.cell? ⟨g + 1, 1, none⟩ = some (.int .i64 b1) := cell_of h.cB rfl
theorem TouchSt.k4 (h : TouchSt W g a0 a1 b0 b1 x0 x1 y0 y1) : W.cell? ⟨g + 1 + 1, 0, none⟩ = some (.int .i64 x0) := cell_of h.cX rfl
theorem TouchSt.k5 (h : TouchSt W g a0 a1 b0 b1 x0 x1 y0 y1) : W.cell? ⟨g + 1 + 1, 1, none⟩ = some (.int .i64 x1) := cell_of h.cX rfl
theorem TouchSt.k6 (h : TouchSt W g a0 a1 b0 b1 x0 x1 y0 y1) : W.cell? ⟨g + 1 + 1 + 1, 0, none⟩ = some (.int .i64 y0) := cell_of h.cY rfl
theorem TouchSt.k7 (h : TouchSt W g a0 a1 b0 b1 x0 x1 y0 y1) : W.cell? ⟨g + 1 + 1 + 1, 1, none⟩ = some (.int .i64 y1) := cell_of h.cY rfl
theorem TouchSt.corners (h : TouchSt W g a0 a1 b0 b1 x0 x1 y0 y1) : Kd.C k23 W (some ⟨g + 1 + 1 + 1 + 1, 0, none⟩) (cornersOf x0 x1 y0 y1).length (cornersOf x0 x1 y0 y1) := by
  refine points_of (l := cornersOf x0 x1 y0 y1) (by simp [cornersOf]) fun j x hj => ?_
  match j, hj with
  | 0, hj => obtain rfl := Option.some.inj hj; exact ⟨cell_of h.cC rfl, cell_of h.cC rfl⟩
  | 1, hj => obtain rfl := Option.some.inj hj; exact ⟨cell_of h.cC rfl, cell_of h.cC rfl⟩
  | 2, hj => obtain rfl := Option.some.inj hj; exact ⟨cell_of h.cC rfl, cell_of h.cC rfl⟩
  | 3, hj => obtain rfl := Option.some.inj hj; exact ⟨cell_of h.cC rfl, cell_of h.cC rfl⟩
  | j + 4, hj => simp [cornersOf] at hj
theorem two_points {B : Nat} (h : W.heap[B]? = some (.cells #[.int .i64 a0, .int .i64 a1, .int .i64 b0, .int .i64 b1] 23 (0, 0))) : Kd.C k23 W (some ⟨B, 0, none⟩) ([⟨a0, a1⟩, ⟨b0, b1⟩] : List S23).length [⟨a0, a1⟩, ⟨b0, b1⟩] := by
  refine points_of (l := [⟨a0, a1⟩, ⟨b0, b1⟩]) (by simp) fun j x hj => ?_
  match j, hj with
  | 0, hj => obtain rfl := Option.some.inj hj; exact ⟨cell_of h rfl, cell_of h rfl⟩
  | 1, hj => obtain rfl := Option.some.inj hj; exact ⟨cell_of h rfl, cell_of h rfl⟩
  | j + 2, hj => simp at hj
end
def leastV (a0 a1 b0 b1 : Int) (l : List S23) : Int := l.foldl (fun r c => minI r (turnV a0 a1 b0 b1 c.f0 c.f1)) 1
def mostV (a0 a1 b0 b1 : Int) (l : List S23) : Int := l.foldl (fun r c => maxI r (turnV a0 a1 b0 b1 c.f0 c.f1)) (-1)
def touchV (a0 a1 b0 b1 x0 x1 y0 y1 : Int) : Bool × Int :=
  if ([⟨a0, a1⟩, ⟨b0, b1⟩] : List S23).any outP = true then (false, 5) else if (cornersOf x0 x1 y0 y1).any outP = true then (false, 5) else
  if x0 > x1 then (false, 1) else if y0 > y1 then (false, 1) else if overV a0 b0 x0 x1 = false then (false, 0) else if overV a1 b1 y0 y1 = false then (false, 0) else
  (if leastV a0 a1 b0 b1 (cornersOf x0 x1 y0 y1) ≤ 0 then decide (mostV a0 a1 b0 b1 (cornersOf x0 x1 y0 y1) ≥ 0) else false, 0)
theorem touch_eq {a0 a1 b0 b1 x0 x1 y0 y1 : Int} {v1 v2 v3 v4 : Bool} (h1 : v1 = !([⟨a0, a1⟩, ⟨b0, b1⟩] : List S23).any outP) (h2 : v2 = !(cornersOf x0 x1 y0 y1).any outP) (h3 : v3 = overV a0 b0 x0 x1) (h4 : v4 = overV a1 b1 y0 y1) :
    touchV a0 a1 b0 b1 x0 x1 y0 y1 = (if v1 = false then (false, 5) else if v2 = false then (false, 5) else if x0 > x1 then (false, 1) else if y0 > y1 then (false, 1) else if v3 = false then (false, 0) else if v4 = false then (false, 0) else
    (if leastV a0 a1 b0 b1 (cornersOf x0 x1 y0 y1) ≤ 0 then decide (mostV a0 a1 b0 b1 (cornersOf x0 x1 y0 y1) ≥ 0) else false, 0)) := by
  subst h1 h2 h3 h4
  simp only [touchV, Bool.not_eq_false']
theorem heap_keep {W : World} {o x : Obj} {g : Nat} (h : W.heap[g]? = some x) : (W.alloc o).heap[g]? = some x := (Below.heap_alloc _ _ _ (Array.getElem?_eq_some_iff.1 h).1).trans h
/-- What the drawn region of a round holds. -/
abbrev TS (wr : World) (g : Nat) (a0 a1 b0 b1 c0 c1 : Int) (W : World) : Prop :=
  Below wr.heap.size wr W ∧ W.cell? ⟨g, 0, none⟩ = some (.int .i64 a0) ∧ W.cell? ⟨g, 1, none⟩ = some (.int .i64 a1) ∧ W.cell? ⟨g + 1, 0, none⟩ = some (.int .i64 b0) ∧ W.cell? ⟨g + 1, 1, none⟩ = some (.int .i64 b1) ∧ W.cell? ⟨wr.heap.size, 0, none⟩ = some (.int .i64 c0) ∧ W.cell? ⟨wr.heap.size, 1, none⟩ = some (.int .i64 c1) ∧ wr.heap.size < W.heap.size
theorem TS.begin {wr : World} {g : Nat} {a0 a1 b0 b1 c0 c1 : Int} (hg : g + 1 < wr.heap.size) (q0 : wr.cell? ⟨g, 0, none⟩ = some (.int .i64 a0)) (q1 : wr.cell? ⟨g, 1, none⟩ = some (.int .i64 a1)) (q2 : wr.cell? ⟨g + 1, 0, none⟩ = some (.int .i64 b0)) (q3 : wr.cell? ⟨g + 1, 1, none⟩ = some (.int .i64 b1)) :
    TS wr g a0 a1 b0 b1 c0 c1 (wr.alloc (.cells #[.int .i64 c0, .int .i64 c1] 23)).drew := by
  have hb : Below wr.heap.size wr (wr.alloc (.cells #[.int .i64 c0, .int .i64 c1] 23)) := (Below.refl _ wr).alloc (Nat.le_refl _) _
  have hn := World.alloc_heap_new wr (.cells #[.int .i64 c0, .int .i64 c1] 23)
  refine ⟨below_drew1 hb, ?_, ?_, ?_, ?_, ?_, ?_, ?_⟩
  · exact (hb.cell (p := ⟨g, 0, none⟩) (by show g < _; omega)).trans q0
  · exact (hb.cell (p := ⟨g, 1, none⟩) (by show g < _; omega)).trans q1
  · exact (hb.cell (p := ⟨g + 1, 0, none⟩) hg).trans q2
  · exact (hb.cell (p := ⟨g + 1, 1, none⟩) hg).trans q3
  · exact cell_of hn rfl
  · exact cell_of hn rfl
  · show wr.heap.size < (wr.alloc _).heap.size
    simp
theorem TS.step {wr W W' : World} {g : Nat} {a0 a1 b0 b1 c0 c1 : Int} (hg : g + 1 < wr.heap.size) (h : TS wr g a0 a1 b0 b1 c0 c1 W) (hb : Below W.heap.size W W') : TS wr g a0 a1 b0 b1 c0 c1 W' := by
  obtain ⟨h0, h1, h2, h3, h4, h5, h6, h7⟩ := h
  have hs := hb.size
  exact ⟨h0.trans (hb.mono (by omega)), (hb.cell (p := ⟨g, 0, none⟩) (by show g < _; omega)).trans h1, (hb.cell (p := ⟨g, 1, none⟩) (by show g < _; omega)).trans h2, (hb.cell (p := ⟨g + 1, 0, none⟩) (by show g + 1 < _; omega)).trans h3, (hb.cell (p := ⟨g + 1, 1, none⟩) (by show g + 1 < _; omega)).trans h4, (hb.cell (p := ⟨wr.heap.size, 0, none⟩) h7).trans h5, (hb.cell (p := ⟨wr.heap.size, 1, none⟩) h7).trans h6, by omega⟩
def geo_Touches.f (a0 a1 b0 b1 x0 x1 y0 y1 : Int) : Option (Bool × Int) := some (touchV a0 a1 b0 b1 x0 x1 y0 y1)
set_option maxRecDepth 100000 in
set_option maxHeartbeats 4000000 in
theorem geo_Touches.calls (a0 a1 b0 b1 x0 x1 y0 y1 : Int) (r1 : Bool) (r2 : Int) (w : World) (h : geo_Touches.f a0 a1 b0 b1 x0 x1 y0 y1 = some (r1, r2)) :
    Calls Try.prog 29 #[.agg #[.int .i64 a0, .int .i64 a1], .agg #[.int .i64 b0, .int .i64 b1], .agg #[.int .i64 x0, .int .i64 x1], .agg #[.int .i64 y0, .int .i64 y1]] w fun e w' => e = .returned (.tuple #[.bool r1, .int .i64 r2]) ∧ Below w.heap.size w w' := by
  have H := Aside0.mk (Option.some.inj h)
  clear h
  have hBA : Below w.heap.size w ((((((w.alloc (.cells #[.int .i64 a0, .int .i64 a1] 23)).alloc (.cells #[.int .i64 b0, .int .i64 b1] 23)).alloc (.cells #[.int .i64 x0, .int .i64 x1] 44)).alloc (.cells #[.int .i64 y0, .int .i64 y1] 44)).alloc (.cells #[.int .i64 x0, .int .i64 y0, .int .i64 x0, .int .i64 y1, .int .i64 x1, .int .i64 y0, .int .i64 x1, .int .i64 y1] 70)).alloc (.cells #[.int .i64 a0, .int .i64 a1, .int .i64 b0, .int .i64 b1] 23)) := ((((((Below.refl _ w).alloc (Nat.le_refl _) _).alloc (by simp) _).alloc (by simp; omega) _).alloc (by simp; omega) _).alloc (by simp; omega) _).alloc (by simp; omega) _
  have hzA : ((((((w.alloc (.cells #[.int .i64 a0, .int .i64 a1] 23)).alloc (.cells #[.int .i64 b0, .int .i64 b1] 23)).alloc (.cells #[.int .i64 x0, .int .i64 x1] 44)).alloc (.cells #[.int .i64 y0, .int .i64 y1] 44)).alloc (.cells #[.int .i64 x0, .int .i64 y0, .int .i64 x0, .int .i64 y1, .int .i64 x1, .int .i64 y0, .int .i64 x1, .int .i64 y1] 70)).alloc (.cells #[.int .i64 a0, .int .i64 a1, .int .i64 b0, .int .i64 b1] 23)).heap.size = w.heap.size + 6 := by simp
  have hrow : Kd.C k23 ((((((w.alloc (.cells #[.int .i64 a0, .int .i64 a1] 23)).alloc (.cells #[.int .i64 b0, .int .i64 b1] 23)).alloc (.cells #[.int .i64 x0, .int .i64 x1] 44)).alloc (.cells #[.int .i64 y0, .int .i64 y1] 44)).alloc (.cells #[.int .i64 x0, .int .i64 y0, .int .i64 x0, .int .i64 y1, .int .i64 x1, .int .i64 y0, .int .i64 x1, .int .i64 y1] 70)).alloc (.cells #[.int .i64 a0, .int .i64 a1, .int .i64 b0, .int .i64 b1] 23)) (some ⟨w.heap.size + 1 + 1 + 1 + 1 + 1, 0, none⟩) ([⟨a0, a1⟩, ⟨b0, b1⟩] : List S23).length [⟨a0, a1⟩, ⟨b0, b1⟩] := two_points (heap_at _ _ _ (by simp))
  have st : TouchSt ((((((w.alloc (.cells #[.int .i64 a0, .int .i64 a1] 23)).alloc (.cells #[.int .i64 b0, .int .i64 b1] 23)).alloc (.cells #[.int .i64 x0, .int .i64 x1] 44)).alloc (.cells #[.int .i64 y0, .int .i64 y1] 44)).alloc (.cells #[.int .i64 x0, .int .i64 y0, .int .i64 x0, .int .i64 y1, .int .i64 x1, .int .i64 y0, .int .i64 x1, .int .i64 y1] 70)).alloc (.cells #[.int .i64 a0, .int .i64 a1, .int .i64 b0, .int .i64 b1] 23)) w.heap.size a0 a1 b0 b1 x0 x1 y0 y1 := ⟨heap_keep (heap_keep (heap_keep (heap_keep (heap_keep (heap_at _ _ _ (by simp)))))), heap_keep (heap_keep (heap_keep (heap_keep (heap_at _ _ _ (by simp))))), heap_keep (heap_keep (heap_keep (heap_at _ _ _ (by simp)))), heap_keep (heap_keep (heap_at _ _ _ (by simp))), heap_keep (heap_at _ _ _ (by simp))⟩
  obtain ⟨wA, hwA⟩ : ∃ wA, ((((((w.alloc (.cells #[.int .i64 a0, .int .i64 a1] 23)).alloc (.cells #[.int .i64 b0, .int .i64 b1] 23)).alloc (.cells #[.int .i64 x0, .int .i64 x1] 44)).alloc (.cells #[.int .i64 y0, .int .i64 y1] 44)).alloc (.cells #[.int .i64 x0, .int .i64 y0, .int .i64 x0, .int .i64 y1, .int .i64 x1, .int .i64 y0, .int .i64 x1, .int .i64 y1] 70)).alloc (.cells #[.int .i64 a0, .int .i64 a1, .int .i64 b0, .int .i64 b1] 23)) = wA := ⟨_, rfl⟩
  rw [hwA] at hBA hzA hrow st
  obtain ⟨v1, V1, D1⟩ : ∃ v, Aside0 (geo_fits.f [⟨a0, a1⟩, ⟨b0, b1⟩] = some v) ∧ Aside0 (v = !([⟨a0, a1⟩, ⟨b0, b1⟩] : List S23).any outP) := ⟨_, ⟨by rw [geo_fits.f, if_pos (by simp)]⟩, ⟨rfl⟩⟩
  obtain ⟨v2, V2, D2⟩ : ∃ v, Aside0 (geo_fits.f (cornersOf x0 x1 y0 y1) = some v) ∧ Aside0 (v = !(cornersOf x0 x1 y0 y1).any outP) := ⟨_, ⟨by rw [geo_fits.f, if_pos (by simp [cornersOf])]⟩, ⟨rfl⟩⟩
  obtain ⟨v3, V3, D3⟩ : ∃ v, Aside0 (geo_over.f a0 b0 x0 x1 = some v) ∧ Aside0 (v = overV a0 b0 x0 x1) := ⟨_, ⟨over_some _ _ _ _⟩, ⟨rfl⟩⟩
  obtain ⟨v4, V4, D4⟩ : ∃ v, Aside0 (geo_over.f a1 b1 y0 y1 = some v) ∧ Aside0 (v = overV a1 b1 y0 y1) := ⟨_, ⟨over_some _ _ _ _⟩, ⟨rfl⟩⟩
  rw [touch_eq D1.out D2.out D3.out D4.out] at H
  go_enter Try.func29, Try.ntmps29
  go_wp2_with (go_at_call 34; (try rw [hwA]); refine (geo_fits.calls (some ⟨w.heap.size + 1 + 1 + 1 + 1 + 1, 0, none⟩) 2 [⟨a0, a1⟩, ⟨b0, b1⟩] v1 wA hrow (Nat.le_refl _) V1.out).mono ?_; rintro e_ w1 ⟨rfl, hb1⟩; have st1 := st.below hb1 (by omega); have hB1 := hBA.trans (hb1.mono (by omega)); have hz1 := hb1.size; refine Aside0.out ?_)
  constructor
  cases v1 with
  | false =>
    have hr := H.out; rw [if_pos rfl] at hr
    go_wp2
    go_ret2
    exact ⟨by cases hr; rfl, hB1⟩
  | true =>
  replace H : Aside0 _ := ⟨by have hr := H.out; rw [if_neg (show ¬ (true = false) by decide)] at hr; exact hr⟩
  have hpC := st1.corners
  go_wp2_with (go_at_call 34; refine (geo_fits.calls (some ⟨w.heap.size + 1 + 1 + 1 + 1, 0, none⟩) 4 (cornersOf x0 x1 y0 y1) v2 w1 hpC (Nat.le_refl _) V2.out).mono ?_; rintro e_ w2 ⟨rfl, hb2⟩; have st2 := st1.below hb2 (by omega); have hB2 := hB1.trans (hb2.mono (by omega)); have hz2 := hb2.size; refine Aside0.out ?_)
  constructor
  cases v2 with
  | false =>
    have hr := H.out; rw [if_pos rfl] at hr
    go_wp2
    go_ret2
    exact ⟨by cases hr; rfl, hB2⟩
  | true =>
  replace H : Aside0 _ := ⟨by have hr := H.out; rw [if_neg (show ¬ (true = false) by decide)] at hr; exact hr⟩
  have k0 := st2.k0
  have k1 := st2.k1
  have k2 := st2.k2
  have k3 := st2.k3
  have k4 := st2.k4
  have k5 := st2.k5
  have k6 := st2.k6
  have k7 := st2.k7
  by_cases e3 : x0 > x1
  · have e3b : decide (x0 > x1) = true := decide_eq_true e3
    have hr := H.out; rw [if_pos e3] at hr
    go_wp2
    go_ret2
    exact ⟨by cases hr; rfl, hB2⟩
  have e3b : decide (x0 > x1) = false := decide_eq_false e3
  replace H : Aside0 _ := ⟨by have hr := H.out; rw [if_neg e3] at hr; exact hr⟩
  by_cases e4 : y0 > y1
  · have e4b : decide (y0 > y1) = true := decide_eq_true e4
    have hr := H.out; rw [if_pos e4] at hr
    go_wp2
    go_ret2
    exact ⟨by cases hr; rfl, hB2⟩
  have e4b : decide (y0 > y1) = false := decide_eq_false e4
  replace H : Aside0 _ := ⟨by have hr := H.out; rw [if_neg e4] at hr; exact hr⟩
  go_wp2_with (go_at_call 47; refine (geo_over.calls a0 b0 x0 x1 v3 w2 V3.out).mono ?_; rintro e_ w3 ⟨rfl, hb3⟩; clear k0 k1 k2 k3 k4 k5 k6 k7; have st3 := st2.below hb3 (by omega); have hB3 := hB2.trans (hb3.mono (by omega)); have hz3 := hb3.size; refine Aside0.out ?_)
  constructor
  cases v3 with
  | false =>
    have hr := H.out; rw [if_pos rfl] at hr
    go_wp2
    go_ret2
    exact ⟨by cases hr; rfl, hB3⟩
  | true =>
  replace H : Aside0 _ := ⟨by have hr := H.out; rw [if_neg (show ¬ (true = false) by decide)] at hr; exact hr⟩
  have k0 := st3.k0
  have k1 := st3.k1
  have k2 := st3.k2
  have k3 := st3.k3
  have k4 := st3.k4
  have k5 := st3.k5
  have k6 := st3.k6
  have k7 := st3.k7
  go_wp2_with (go_at_call 47; refine (geo_over.calls a1 b1 y0 y1 v4 w3 V4.out).mono ?_; rintro e_ w4 ⟨rfl, hb4⟩; clear k0 k1 k2 k3 k4 k5 k6 k7; have st4 := st3.below hb4 (by omega); have hB4 := hB3.trans (hb4.mono (by omega)); have hz4 := hb4.size; refine Aside0.out ?_)
  constructor
  cases v4 with
  | false =>
    have hr := H.out; rw [if_pos rfl] at hr
    go_wp2
    go_ret2
    exact ⟨by cases hr; rfl, hB4⟩
  | true =>
  replace H : Aside0 _ := ⟨by have hr := H.out; rw [if_neg (show ¬ (true = false) by decide)] at hr; exact hr⟩
  have k0 := st4.k0
  have k1 := st4.k1
  have k2 := st4.k2
  have k3 := st4.k3
  have k8 := cell_of (j := 0) st4.cC rfl
  have k9 := cell_of (j := 1) st4.cC rfl
  have k10 := cell_of (j := 2) st4.cC rfl
  have k11 := cell_of (j := 3) st4.cC rfl
  have k12 := cell_of (j := 4) st4.cC rfl
  have k13 := cell_of (j := 5) st4.cC rfl
  have k14 := cell_of (j := 6) st4.cC rfl
  have k15 := cell_of (j := 7) st4.cC rfl
  go_wp2
  skip
  go_loopw [11, 12, 14, 81, 82, 83, 84, 85, 86, 87, 88, 89, 90, 91, 92, 93, 94, 95, 96] (fun v11 v12 _ v81 _ _ _ _ _ _ _ _ _ _ _ _ _ _ _ wr => ∃ kk : Nat, kk ≤ 4 ∧ v81 = .int .i64 kk ∧ v11 = .int .i64 (leastV a0 a1 b0 b1 ((cornersOf x0 x1 y0 y1).take kk)) ∧ v12 = .int .i64 (mostV a0 a1 b0 b1 ((cornersOf x0 x1 y0 y1).take kk)) ∧ Aside0 (Below w4.heap.size w4 wr)) (fun _ _ _ v _ _ _ _ _ _ _ _ _ _ _ _ _ _ _ _ => 4 - (intOf v).toNat)
  case atStart => exact ⟨0, Nat.zero_le _, rfl, rfl, rfl, ⟨Below.refl _ _⟩⟩
  case round =>
    obtain ⟨kk, hkk, rfl, rfl, rfl, HB⟩ := hrel
    have hzr := HB.out.size
    have hgr : w.heap.size + 1 < wr.heap.size := by omega
    have q0 := (st4.below HB.out (by omega)).k0
    have q1 := (st4.below HB.out (by omega)).k1
    have q2 := (st4.below HB.out (by omega)).k2
    have q3 := (st4.below HB.out (by omega)).k3
    clear k0 k1 k2 k3 k8 k9 k10 k11 k12 k13 k14 k15
    obtain rfl | rfl | rfl | rfl | rfl : kk = 0 ∨ kk = 1 ∨ kk = 2 ∨ kk = 3 ∨ kk = 4 := by omega
    · obtain ⟨m0, hm0⟩ : ∃ m, leastV a0 a1 b0 b1 ((cornersOf x0 x1 y0 y1).take 0) = m := ⟨_, rfl⟩
      obtain ⟨m1, hm1⟩ : ∃ m, mostV a0 a1 b0 b1 ((cornersOf x0 x1 y0 y1).take 0) = m := ⟨_, rfl⟩
      have HM0 := Aside0.mk (show leastV a0 a1 b0 b1 ((cornersOf x0 x1 y0 y1).take 1) = minI m0 (turnV a0 a1 b0 b1 x0 y0) from hm0 ▸ rfl)
      have HM1 := Aside0.mk (show mostV a0 a1 b0 b1 ((cornersOf x0 x1 y0 y1).take 1) = maxI m1 (turnV a0 a1 b0 b1 x0 y0) from hm1 ▸ rfl)
      rw [hm0, hm1]
      clear hm0 hm1
      have ix : ∀ w_ : World, (Instr.index 70 (.agg #[.int .i64 x0, .int .i64 y0, .int .i64 x0, .int .i64 y1, .int .i64 x1, .int .i64 y0, .int .i64 x1, .int .i64 y1]) (.int .i64 0)).run Try.prog w_ = .ok (.agg #[.int .i64 x0, .int .i64 y0]) w_ := fun _ => by kernel_rfl
      go_wp2
      go_region_held3 (fun W' => Below wr.heap.size wr W' ∧ W'.cell? ⟨w.heap.size, 0, none⟩ = some (.int .i64 a0) ∧ W'.cell? ⟨w.heap.size, 1, none⟩ = some (.int .i64 a1) ∧ W'.cell? ⟨w.heap.size + 1, 0, none⟩ = some (.int .i64 b0) ∧ W'.cell? ⟨w.heap.size + 1, 1, none⟩ = some (.int .i64 b1) ∧ W'.cell? ⟨wr.heap.size, 0, none⟩ = some (.int .i64 x0) ∧ W'.cell? ⟨wr.heap.size, 1, none⟩ = some (.int .i64 y0) ∧ wr.heap.size < W'.heap.size) ((first | assumption | exact TS.begin hgr q0 q1 q2 q3 | exact TS.step hgr (by assumption) hb5)) ((go_at_call 35; refine (geo_turn.calls a0 a1 b0 b1 x0 y0 _ _ (turn_some _ _ _ _ _ _)).mono ?_; rintro e_ w5 ⟨rfl, hb5⟩))
      all_goals go_wp2
      all_goals go_roundw
      all_goals first | exact ⟨1, by omega, by first | rfl | (simp; done) | omega, HM0.out.symm, HM1.out.symm, ⟨HB.out.trans ((‹Below wr.heap.size wr w5 ∧ _›).1.mono hzr)⟩⟩ | exact ⟨1, by omega, by first | rfl | (simp; done) | go_num, by rw [HM0.out], by rw [HM1.out], ⟨HB.out.trans ((‹Below wr.heap.size wr w5 ∧ _›).1.mono hzr)⟩⟩ | (simp [intOf]; done)
    · obtain ⟨m0, hm0⟩ : ∃ m, leastV a0 a1 b0 b1 ((cornersOf x0 x1 y0 y1).take 1) = m := ⟨_, rfl⟩
      obtain ⟨m1, hm1⟩ : ∃ m, mostV a0 a1 b0 b1 ((cornersOf x0 x1 y0 y1).take 1) = m := ⟨_, rfl⟩
      have HM0 := Aside0.mk (show leastV a0 a1 b0 b1 ((cornersOf x0 x1 y0 y1).take 2) = minI m0 (turnV a0 a1 b0 b1 x0 y1) from hm0 ▸ rfl)
      have HM1 := Aside0.mk (show mostV a0 a1 b0 b1 ((cornersOf x0 x1 y0 y1).take 2) = maxI m1 (turnV a0 a1 b0 b1 x0 y1) from hm1 ▸ rfl)
      rw [hm0, hm1]
      clear hm0 hm1
      have ix : ∀ w_ : World, (Instr.index 70 (.agg #[.int .i64 x0, .int .i64 y0, .int .i64 x0, .int .i64 y1, .int .i64 x1, .int .i64 y0, .int .i64 x1, .int .i64 y1]) (.int .i64 1)).run Try.prog w_ = .ok (.agg #[.int .i64 x0, .int .i64 y1]) w_ := fun _ => by kernel_rfl
      go_wp2
      go_region_held3 (fun W' => Below wr.heap.size wr W' ∧ W'.cell? ⟨w.heap.size, 0, none⟩ = some (.int .i64 a0) ∧ W'.cell? ⟨w.heap.size, 1, none⟩ = some (.int .i64 a1) ∧ W'.cell? ⟨w.heap.size + 1, 0, none⟩ = some (.int .i64 b0) ∧ W'.cell? ⟨w.heap.size + 1, 1, none⟩ = some (.int .i64 b1) ∧ W'.cell? ⟨wr.heap.size, 0, none⟩ = some (.int .i64 x0) ∧ W'.cell? ⟨wr.heap.size, 1, none⟩ = some (.int .i64 y1) ∧ wr.heap.size < W'.heap.size) ((first | assumption | exact TS.begin hgr q0 q1 q2 q3 | exact TS.step hgr (by assumption) hb5)) ((go_at_call 35; refine (geo_turn.calls a0 a1 b0 b1 x0 y1 _ _ (turn_some _ _ _ _ _ _)).mono ?_; rintro e_ w5 ⟨rfl, hb5⟩))
      all_goals go_wp2
      all_goals go_roundw
      all_goals first | exact ⟨2, by omega, by first | rfl | (simp; done) | omega, HM0.out.symm, HM1.out.symm, ⟨HB.out.trans ((‹Below wr.heap.size wr w5 ∧ _›).1.mono hzr)⟩⟩ | exact ⟨2, by omega, by first | rfl | (simp; done) | go_num, by rw [HM0.out], by rw [HM1.out], ⟨HB.out.trans ((‹Below wr.heap.size wr w5 ∧ _›).1.mono hzr)⟩⟩ | (simp [intOf]; done)
    · obtain ⟨m0, hm0⟩ : ∃ m, leastV a0 a1 b0 b1 ((cornersOf x0 x1 y0 y1).take 2) = m := ⟨_, rfl⟩
      obtain ⟨m1, hm1⟩ : ∃ m, mostV a0 a1 b0 b1 ((cornersOf x0 x1 y0 y1).take 2) = m := ⟨_, rfl⟩
      have HM0 := Aside0.mk (show leastV a0 a1 b0 b1 ((cornersOf x0 x1 y0 y1).take 3) = minI m0 (turnV a0 a1 b0 b1 x1 y0) from hm0 ▸ rfl)
      have HM1 := Aside0.mk (show mostV a0 a1 b0 b1 ((cornersOf x0 x1 y0 y1).take 3) = maxI m1 (turnV a0 a1 b0 b1 x1 y0) from hm1 ▸ rfl)
      rw [hm0, hm1]
      clear hm0 hm1
      have ix : ∀ w_ : World, (Instr.index 70 (.agg #[.int .i64 x0, .int .i64 y0, .int .i64 x0, .int .i64 y1, .int .i64 x1, .int .i64 y0, .int .i64 x1, .int .i64 y1]) (.int .i64 2)).run Try.prog w_ = .ok (.agg #[.int .i64 x1, .int .i64 y0]) w_ := fun _ => by kernel_rfl
      go_wp2
      go_region_held3 (fun W' => Below wr.heap.size wr W' ∧ W'.cell? ⟨w.heap.size, 0, none⟩ = some (.int .i64 a0) ∧ W'.cell? ⟨w.heap.size, 1, none⟩ = some (.int .i64 a1) ∧ W'.cell? ⟨w.heap.size + 1, 0, none⟩ = some (.int .i64 b0) ∧ W'.cell? ⟨w.heap.size + 1, 1, none⟩ = some (.int .i64 b1) ∧ W'.cell? ⟨wr.heap.size, 0, none⟩ = some (.int .i64 x1) ∧ W'.cell? ⟨wr.heap.size, 1, none⟩ = some (.int .i64 y0) ∧ wr.heap.size < W'.heap.size) ((first | assumption | exact TS.begin hgr q0 q1 q2 q3 | exact TS.step hgr (by assumption) hb5)) ((go_at_call 35; refine (geo_turn.calls a0 a1 b0 b1 x1 y0 _ _ (turn_some _ _ _ _ _ _)).mono ?_; rintro e_ w5 ⟨rfl, hb5⟩))
      all_goals go_wp2
      all_goals go_roundw
      all_goals first | exact ⟨3, by omega, by first | rfl | (simp; done) | omega, HM0.out.symm, HM1.out.symm, ⟨HB.out.trans ((‹Below wr.heap.size wr w5 ∧ _›).1.mono hzr)⟩⟩ | exact ⟨3, by omega, by first | rfl | (simp; done) | go_num, by rw [HM0.out], by rw [HM1.out], ⟨HB.out.trans ((‹Below wr.heap.size wr w5 ∧ _›).1.mono hzr)⟩⟩ | (simp [intOf]; done)
    · obtain ⟨m0, hm0⟩ : ∃ m, leastV a0 a1 b0 b1 ((cornersOf x0 x1 y0 y1).take 3) = m := ⟨_, rfl⟩
      obtain ⟨m1, hm1⟩ : ∃ m, mostV a0 a1 b0 b1 ((cornersOf x0 x1 y0 y1).take 3) = m := ⟨_, rfl⟩
      have HM0 := Aside0.mk (show leastV a0 a1 b0 b1 ((cornersOf x0 x1 y0 y1).take 4) = minI m0 (turnV a0 a1 b0 b1 x1 y1) from hm0 ▸ rfl)
      have HM1 := Aside0.mk (show mostV a0 a1 b0 b1 ((cornersOf x0 x1 y0 y1).take 4) = maxI m1 (turnV a0 a1 b0 b1 x1 y1) from hm1 ▸ rfl)
      rw [hm0, hm1]
      clear hm0 hm1
      have ix : ∀ w_ : World, (Instr.index 70 (.agg #[.int .i64 x0, .int .i64 y0, .int .i64 x0, .int .i64 y1, .int .i64 x1, .int .i64 y0, .int .i64 x1, .int .i64 y1]) (.int .i64 3)).run Try.prog w_ = .ok (.agg #[.int .i64 x1, .int .i64 y1]) w_ := fun _ => by kernel_rfl
      go_wp2
      go_region_held3 (fun W' => Below wr.heap.size wr W' ∧ W'.cell? ⟨w.heap.size, 0, none⟩ = some (.int .i64 a0) ∧ W'.cell? ⟨w.heap.size, 1, none⟩ = some (.int .i64 a1) ∧ W'.cell? ⟨w.heap.size + 1, 0, none⟩ = some (.int .i64 b0) ∧ W'.cell? ⟨w.heap.size + 1, 1, none⟩ = some (.int .i64 b1) ∧ W'.cell? ⟨wr.heap.size, 0, none⟩ = some (.int .i64 x1) ∧ W'.cell? ⟨wr.heap.size, 1, none⟩ = some (.int .i64 y1) ∧ wr.heap.size < W'.heap.size) ((first | assumption | exact TS.begin hgr q0 q1 q2 q3 | exact TS.step hgr (by assumption) hb5)) ((go_at_call 35; refine (geo_turn.calls a0 a1 b0 b1 x1 y1 _ _ (turn_some _ _ _ _ _ _)).mono ?_; rintro e_ w5 ⟨rfl, hb5⟩))
      all_goals go_wp2
      all_goals go_roundw
      all_goals first | exact ⟨4, by omega, by first | rfl | (simp; done) | omega, HM0.out.symm, HM1.out.symm, ⟨HB.out.trans ((‹Below wr.heap.size wr w5 ∧ _›).1.mono hzr)⟩⟩ | exact ⟨4, by omega, by first | rfl | (simp; done) | go_num, by rw [HM0.out], by rw [HM1.out], ⟨HB.out.trans ((‹Below wr.heap.size wr w5 ∧ _›).1.mono hzr)⟩⟩ | (simp [intOf]; done)
    · have hr := H.out
      have hzw : w.heap.size ≤ w4.heap.size := by omega
      change ((if leastV a0 a1 b0 b1 ((cornersOf x0 x1 y0 y1).take 4) ≤ 0 then decide (mostV a0 a1 b0 b1 ((cornersOf x0 x1 y0 y1).take 4) ≥ 0) else false, 0) = (r1, r2)) at hr
      generalize leastV a0 a1 b0 b1 ((cornersOf x0 x1 y0 y1).take 4) = m0 at hr ⊢
      generalize mostV a0 a1 b0 b1 ((cornersOf x0 x1 y0 y1).take 4) = m1 at hr ⊢
      have H := Aside0.mk hr
      clear hr
      by_cases e7 : m0 ≤ 0
      · have e7b : decide (m0 ≤ 0) = true := decide_eq_true e7
        replace H : Aside0 _ := ⟨by have hr := H.out; rw [if_pos e7] at hr; exact hr⟩
        go_wp2
        go_ret2
        exact ⟨by cases H.out; rfl, hB4.trans (HB.out.mono hzw)⟩
      · have e7b : decide (m0 ≤ 0) = false := decide_eq_false e7
        replace H : Aside0 _ := ⟨by have hr := H.out; rw [if_neg e7] at hr; exact hr⟩
        go_wp2
        go_ret2
        exact ⟨by cases H.out; rfl, hB4.trans (HB.out.mono hzw)⟩
end Go.Proofs.Ytannklfnfacpeaa.X
