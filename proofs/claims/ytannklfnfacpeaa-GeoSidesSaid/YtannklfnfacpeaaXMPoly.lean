/- What the document's Simple and Area2 answer, and that geo's answer the same. -/
import Derived.Test.YtannklfnfacpeaaXMCommon
import Derived.Test.YtannklfnfacpeaaXMSpike
import Derived.Test.YtannklfnfacpeaaXMTangle
import Derived.Test.YtannklfnfacpeaaXx6
import Derived.Test.YtannklfnfacpeaaXx9
import Derived.Test.YtannklfnfacpeaaXx10
namespace Go.Proofs.Ytannklfnfacpeaa.X
open Go.RowKit Go.Proofs.YtannklfnfacpeaaW.PrintWords Go.Proofs.YtannklfnfacpeaaW.PrintLast Go.Proofs.YtannklfnfacpeaaW.PrintMore
set_option linter.unusedVariables false
set_option linter.unusedSimpArgs false
def anyF (f : Nat → Bool) (n : Nat) : Nat → Bool
  | 0 => false
  | m + 1 => f (n - (m + 1)) || anyF f n m
theorem anyF_iff {f : Nat → Bool} {n : Nat} : ∀ m, m ≤ n → (anyF f n m = true ↔ ∃ i, n - m ≤ i ∧ i < n ∧ f i = true) := by
  intro m
  induction m with
  | zero => exact fun _ => ⟨fun h => (by cases h), fun ⟨i, h1, h2, _⟩ => by omega⟩
  | succ m ih =>
    intro hm
    rw [anyF, Bool.or_eq_true, ih (by omega)]
    constructor
    · rintro (h | ⟨i, h1, h2, h3⟩)
      · exact ⟨n - (m + 1), by omega, by omega, h⟩
      · exact ⟨i, by omega, h2, h3⟩
    · rintro ⟨i, h1, h2, h3⟩
      by_cases c : i = n - (m + 1)
      · exact .inl (c ▸ h3)
      · exact .inr ⟨i, by omega, h2, h3⟩
theorem loop_any {n lo : Nat} {f : Nat → Bool} {v r : Int} {g : Nat → Nat → Option Int} {h : Nat → Option Int} (R : Ev h r)
    (step : ∀ i, lo ≤ i → i < n → ∃ F : Nat → Option Bool, Ev F (f i) ∧ ∀ k, g (k + 1) i = (F k).bind fun t => if t = true then some v else g k (i + 1)) (stop : ∀ k, g (k + 1) n = h k) :
    ∀ m i, lo ≤ i → i + m = n → Ev (fun k => g k i) (if anyF f n m = true then v else r) := by
  intro m
  induction m with
  | zero =>
    intro i hlo hi
    obtain rfl : i = n := by omega
    exact Ev.step (f := h) stop R
  | succ m ih =>
    intro i hlo hi
    obtain ⟨F, hF, hs⟩ := step i hlo (by omega)
    refine Ev.step (f := fun k => (F k).bind fun t => if t = true then some v else g k (i + 1)) hs (Ev.bind hF ?_)
    rw [anyF, show n - (m + 1) = i by omega]
    cases f i with
    | true => exact Ev.now _
    | false => exact ih (i + 1) (by omega) (by omega)
theorem next_some {l : List S23} {i : Nat} (h : i < l.length) (hn : l.length ≤ 64) : windhoverref09_next.f l (i : Int) = some ((nx l (i + 1)).f0, (nx l (i + 1)).f1) := by
  have e1 : wrap64 ((i : Int) + 1) = ((i + 1 : Nat) : Int) := w64n (i + 1) (by omega)
  have hm : (i + 1) % l.length < l.length := Nat.mod_lt _ (by omega)
  unfold windhoverref09_next.f
  rw [if_neg (by omega), e1, tmodn, if_pos (by omega), if_pos (by omega)]
  rfl
def onS (a b p : S23) : Bool := onV a.f0 a.f1 b.f0 b.f1 p.f0 p.f1
def refPair (l : List S23) (i j : Nat) : Bool :=
  if j = i + 1 then onS (pt l i) (nx l (i + 1)) (nx l (j + 1)) || onS (pt l j) (nx l (j + 1)) (pt l i)
  else if i = 0 ∧ j = l.length - 1 then onS (pt l i) (nx l (i + 1)) (pt l j) || onS (pt l j) (nx l (j + 1)) (nx l (i + 1))
  else commonV (pt l i).f0 (pt l i).f1 (nx l (i + 1)).f0 (nx l (i + 1)).f1 (pt l j).f0 (pt l j).f1 (nx l (j + 1)).f0 (nx l (j + 1)).f1
theorem or_ev {F G : Nat → Option Bool} {a b : Bool} (hF : Ev F a) (hG : Ev G b) : Ev (fun k => (F k).bind fun t => if t = true then some true else (G k).bind fun t => some t) (a || b) := by
  refine Ev.bind hF ?_
  cases a with
  | true => exact Ev.now _
  | false => exact Ev.congr (f := fun k => (G k).bind fun t => some t) (fun k => rfl) (Ev.bind hG (Ev.now _))
theorem tang_ref {l : List S23} {i j : Nat} (hi : i < j) (hj : j < l.length) (hn : l.length ≤ 64) : Ev (fun k => windhoverref09_tangled.f k l (i : Int) (j : Int)) (refPair l i j) := by
  have e1 : wrap64 ((i : Int) + 1) = ((i + 1 : Nat) : Int) := w64n (i + 1) (by omega)
  have e3 : wrap64 ((l.length : Int) - 1) = (l.length : Int) - 1 := w64 (by omega) (by omega)
  unfold windhoverref09_tangled.f refPair
  by_cases c : j = i + 1
  · rw [if_pos c]
    refine Ev.congr (fun k => ?_) (or_ev (on_ref (pt l i).f0 (pt l i).f1 (nx l (i + 1)).f0 (nx l (i + 1)).f1 (nx l (j + 1)).f0 (nx l (j + 1)).f1) (on_ref (pt l j).f0 (pt l j).f1 (nx l (j + 1)).f0 (nx l (j + 1)).f1 (pt l i).f0 (pt l i).f1))
    rw [if_pos (by omega), if_pos (by omega), next_some (by omega) hn, Option.bind_some, if_pos (by omega), if_pos (by omega), next_some hj hn, Option.bind_some, e1, if_pos (by omega)]
    rfl
  · rw [if_neg c]
    by_cases d : i = 0 ∧ j = l.length - 1
    · rw [if_pos d]
      refine Ev.congr (f := fun k => windhoverref09_tangled.j0 k true (pt l i).f0 (pt l i).f1 (nx l (i + 1)).f0 (nx l (i + 1)).f1 (pt l j).f0 (pt l j).f1 (nx l (j + 1)).f0 (nx l (j + 1)).f1) (fun k => ?_)
        (Ev.step (fun k => ?_) (or_ev (on_ref (pt l i).f0 (pt l i).f1 (nx l (i + 1)).f0 (nx l (i + 1)).f1 (pt l j).f0 (pt l j).f1) (on_ref (pt l j).f0 (pt l j).f1 (nx l (j + 1)).f0 (nx l (j + 1)).f1 (nx l (i + 1)).f0 (nx l (i + 1)).f1)))
      · rw [if_pos (by omega), if_pos (by omega), next_some (by omega) hn, Option.bind_some, if_pos (by omega), if_pos (by omega), next_some hj hn, Option.bind_some, e1, if_neg (by omega), if_pos (by omega), e3, show ((j : Int) == (l.length : Int) - 1) = true from beq_iff_eq.2 (by omega)]
        rfl
      · rw [windhoverref09_tangled.j0, if_pos rfl]
    · rw [if_neg d]
      have hC := common_ev (pt l i).f0 (pt l i).f1 (nx l (i + 1)).f0 (nx l (i + 1)).f1 (pt l j).f0 (pt l j).f1 (nx l (j + 1)).f0 (nx l (j + 1)).f1
      refine Ev.congr (f := fun k => windhoverref09_tangled.j0 k false (pt l i).f0 (pt l i).f1 (nx l (i + 1)).f0 (nx l (i + 1)).f1 (pt l j).f0 (pt l j).f1 (nx l (j + 1)).f0 (nx l (j + 1)).f1) (fun k => ?_)
        (Ev.step (f := fun k => (windhoverref09_Common.f k (pt l i).f0 (pt l i).f1 (nx l (i + 1)).f0 (nx l (i + 1)).f1 (pt l j).f0 (pt l j).f1 (nx l (j + 1)).f0 (nx l (j + 1)).f1).bind fun t => some t) (fun k => ?_) (Ev.bind hC (Ev.now _)))
      · rw [if_pos (by omega), if_pos (by omega), next_some (by omega) hn, Option.bind_some, if_pos (by omega), if_pos (by omega), next_some hj hn, Option.bind_some, e1, if_neg (by omega)]
        by_cases c1 : i = 0
        · rw [if_pos (by omega), e3, show ((j : Int) == (l.length : Int) - 1) = false from beq_eq_false_iff_ne.2 (by omega)]
          rfl
        · rw [if_neg (by omega)]
          rfl
      · rw [windhoverref09_tangled.j0, if_neg (by decide)]
def refTangled (l : List S23) : Bool := anyF (fun i => anyF (refPair l i) l.length (l.length - (i + 1))) l.length l.length
def refV (l : List S23) : Int := if l.length < 3 then 90 else if 64 < l.length then 4 else if anyF (fun i => outP (pt l i)) l.length l.length = true then 5 else if anyF (fun i => twin (pt l i, nx l (i + 1))) l.length l.length = true then 91 else if refTangled l = true then 92 else 0
section
variable {l : List S23} (hn : l.length ≤ 64)
include hn
theorem l2_ev : ∀ m i, i + m = l.length → Ev (fun k => windhoverref09_Simple.l2 k l (l.length : Int) (i : Int)) (if anyF (fun i => anyF (refPair l i) l.length (l.length - (i + 1))) l.length m = true then 92 else 0) := by
  intro m
  induction m with
  | zero =>
    intro i hi
    refine Ev.step (f := fun _ => some 0) (fun k => ?_) (Ev.now _)
    rw [windhoverref09_Simple.l2, if_neg (by omega)]
  | succ m ih =>
    intro i hi
    have e1 : wrap64 ((i : Int) + 1) = ((i + 1 : Nat) : Int) := w64n (i + 1) (by omega)
    have h3 := loop_any (n := l.length) (lo := i + 1) (f := refPair l i) (v := 92) (g := fun k j => windhoverref09_Simple.l3 k l (l.length : Int) (i : Int) (j : Int)) (ih (i + 1) (by omega)) (fun j hlo hj => ?_) (fun k => ?_)
    · have := h3 (l.length - (i + 1)) (i + 1) (Nat.le_refl _) (by omega)
      rw [anyF, show l.length - (m + 1) = i by omega]
      refine Ev.step (f := fun k => windhoverref09_Simple.l3 k l (l.length : Int) (i : Int) ((i + 1 : Nat) : Int)) (fun k => ?_) ?_
      · rw [windhoverref09_Simple.l2, if_pos (by omega), e1]
      · cases hc : anyF (refPair l i) l.length (l.length - (i + 1)) with
        | true => rw [hc] at this; exact this
        | false => rw [hc] at this; exact this
    · refine ⟨_, tang_ref (by omega) hj hn, fun k => ?_⟩
      have e2 : wrap64 ((j : Int) + 1) = ((j + 1 : Nat) : Int) := w64n (j + 1) (by omega)
      rw [windhoverref09_Simple.l3, if_pos (by omega), e2]
    · rw [windhoverref09_Simple.l3, if_neg (by omega), e1]
theorem l1_ev : Ev (fun k => windhoverref09_Simple.l1 k l (l.length : Int) ((0 : Nat) : Int)) (if anyF (fun i => twin (pt l i, nx l (i + 1))) l.length l.length = true then 91 else if refTangled l = true then 92 else 0) := by
  refine loop_any (n := l.length) (lo := 0) (f := fun i => twin (pt l i, nx l (i + 1))) (v := 91) (g := fun k j => windhoverref09_Simple.l1 k l (l.length : Int) (j : Int)) (l2_ev hn l.length 0 (by omega)) (fun i _ hi => ?_) (fun k => ?_) l.length 0 (Nat.le_refl _) (by omega)
  · refine ⟨fun _ => some (twin (pt l i, nx l (i + 1))), Ev.now _, fun k => ?_⟩
    have e1 : wrap64 ((i : Int) + 1) = ((i + 1 : Nat) : Int) := w64n (i + 1) (by omega)
    rw [windhoverref09_Simple.l1, if_pos (by omega), if_pos (by omega), if_pos (by omega), next_some hi hn, Option.bind_some, e1]
    rfl
  · rw [windhoverref09_Simple.l1, if_neg (by omega)]
    rfl
theorem l0_ev : Ev (fun k => windhoverref09_Simple.l0 k l (l.length : Int) ((0 : Nat) : Int)) (if anyF (fun i => outP (pt l i)) l.length l.length = true then 5 else if anyF (fun i => twin (pt l i, nx l (i + 1))) l.length l.length = true then 91 else if refTangled l = true then 92 else 0) := by
  refine loop_any (n := l.length) (lo := 0) (f := fun i => outP (pt l i)) (v := 5) (g := fun k j => windhoverref09_Simple.l0 k l (l.length : Int) (j : Int)) (l1_ev hn) (fun i _ hi => ?_) (fun k => ?_) l.length 0 (Nat.le_refl _) (by omega)
  · refine ⟨fun _ => some (outP (pt l i)), Ev.now _, fun k => ?_⟩
    have e1 : wrap64 ((i : Int) + 1) = ((i + 1 : Nat) : Int) := w64n (i + 1) (by omega)
    rw [windhoverref09_Simple.l0, if_pos (by omega), if_pos (by omega), if_pos (by omega), fits_ref, Option.bind_some, e1]
    change (if (!outP (pt l i)) = true then _ else _) = _
    cases outP (pt l i) <;> rfl
  · rw [windhoverref09_Simple.l0, if_neg (by omega)]
    rfl
end
theorem simple_ref (l : List S23) : Ev (fun k => windhoverref09_Simple.f k l) (refV l) := by
  unfold windhoverref09_Simple.f refV
  by_cases c1 : l.length < 3
  · rw [if_pos c1]; exact Ev.congr (fun k => if_pos (by omega)) (Ev.now _)
  by_cases c2 : 64 < l.length
  · rw [if_neg c1, if_pos c2]; exact Ev.congr (fun k => by rw [if_neg (by omega), if_pos (by omega)]) (Ev.now _)
  rw [if_neg c1, if_neg c2]
  exact Ev.congr (fun k => by rw [if_neg (by omega), if_neg (by omega)]; rfl) (l0_ev (by omega))
theorem inner_iff {l : List S23} {i : Nat} : ∀ m, m ≤ l.length → (inner l i m = true ↔ ∃ j, l.length - m ≤ j ∧ j < l.length ∧ ¬ (i = 0 ∧ j = l.length - 1) ∧ pairAt l i j = true) := by
  intro m
  induction m with
  | zero => exact fun _ => ⟨fun h => (by cases h), fun ⟨j, h1, h2, _⟩ => by omega⟩
  | succ m ih =>
    intro hm
    rw [inner, Bool.or_eq_true, ih (by omega)]
    constructor
    · rintro (h | ⟨j, h1, h2, h3⟩)
      · by_cases c : i = 0 ∧ l.length - (m + 1) = l.length - 1
        · rw [if_pos c] at h; cases h
        · rw [if_neg c] at h
          exact ⟨l.length - (m + 1), by omega, by omega, c, h⟩
      · exact ⟨j, by omega, h2, h3⟩
    · rintro ⟨j, h1, h2, h3, h4⟩
      by_cases c : j = l.length - (m + 1)
      · subst c
        exact .inl (by rw [if_neg h3]; exact h4)
      · exact .inr ⟨j, by omega, h2, h3, h4⟩
theorem outer_iff {l : List S23} : ∀ m, m ≤ l.length → (outer l m = true ↔ ∃ i, l.length - m ≤ i ∧ i < l.length ∧ (spikeAt l i = true ∨ inner l i (l.length - i - 2) = true)) := by
  intro m
  induction m with
  | zero => exact fun _ => ⟨fun h => (by cases h), fun ⟨j, h1, h2, _⟩ => by omega⟩
  | succ m ih =>
    intro hm
    rw [outer, Bool.or_eq_true, Bool.or_eq_true, ih (by omega)]
    constructor
    · rintro (h | h | ⟨i, h1, h2, h3⟩)
      · exact ⟨l.length - (m + 1), by omega, by omega, .inl h⟩
      · exact ⟨l.length - (m + 1), by omega, by omega, .inr (by rw [show l.length - (l.length - (m + 1)) - 2 = m - 1 by omega]; exact h)⟩
      · exact ⟨i, by omega, h2, h3⟩
    · rintro ⟨i, h1, h2, h3⟩
      by_cases c : i = l.length - (m + 1)
      · subst c
        rw [show l.length - (l.length - (m + 1)) - 2 = m - 1 by omega] at h3
        rcases h3 with h3 | h3
        · exact .inl h3
        · exact .inr (.inl h3)
      · exact .inr (.inr ⟨i, by omega, h2, h3⟩)
theorem tangledV_iff {l : List S23} : tangledV l = true ↔ (∃ i, i < l.length ∧ spikeAt l i = true) ∨ (∃ i j, i + 2 ≤ j ∧ j < l.length ∧ ¬ (i = 0 ∧ j = l.length - 1) ∧ pairAt l i j = true) := by
  rw [tangledV, outer_iff _ (Nat.le_refl _)]
  constructor
  · rintro ⟨i, _, h2, h | h⟩
    · exact .inl ⟨i, h2, h⟩
    · obtain ⟨j, h3, h4, h5⟩ := (inner_iff _ (by omega)).1 h
      exact .inr ⟨i, j, by omega, h4, h5⟩
  · rintro (⟨i, h1, h2⟩ | ⟨i, j, h1, h2, h3⟩)
    · exact ⟨i, by omega, h1, .inl h2⟩
    · exact ⟨i, by omega, by omega, .inr ((inner_iff _ (by omega)).2 ⟨j, by omega, h2, h3⟩)⟩
theorem refTangled_iff {l : List S23} : refTangled l = true ↔ ∃ i j, i < j ∧ j < l.length ∧ refPair l i j = true := by
  rw [refTangled, anyF_iff _ (Nat.le_refl _)]
  constructor
  · rintro ⟨i, _, h2, h⟩
    obtain ⟨j, h3, h4, h5⟩ := (anyF_iff _ (by omega)).1 h
    exact ⟨i, j, by omega, h4, h5⟩
  · rintro ⟨i, j, h1, h2, h3⟩
    exact ⟨i, by omega, by omega, (anyF_iff _ (by omega)).2 ⟨j, by omega, h2, h3⟩⟩
/-- A polygon within the bounds, no corner twice in a row. -/
structure Fine (l : List S23) : Prop where
  len : 3 ≤ l.length
  ins : ∀ i, i < l.length → InB (pt l i).f0 ∧ InB (pt l i).f1
  two : ∀ i, i < l.length → ¬ ((pt l i).f0 = (nx l (i + 1)).f0 ∧ (pt l i).f1 = (nx l (i + 1)).f1)
theorem nx_pt' {l : List S23} {i : Nat} (h : 0 < l.length) : ∃ j, j < l.length ∧ nx l i = pt l j := ⟨i % l.length, Nat.mod_lt _ h, rfl⟩
theorem nx_lt {l : List S23} {i : Nat} (h : i < l.length) : nx l i = pt l i := by rw [nx, Nat.mod_eq_of_lt h]; rfl
theorem nx_len {l : List S23} (h : 0 < l.length) : nx l l.length = pt l 0 := by rw [nx, Nat.mod_self]; rfl
theorem nx_len1 {l : List S23} (h : 1 < l.length) : nx l (l.length + 1) = pt l 1 := by rw [nx, Nat.add_mod_left, Nat.mod_eq_of_lt h]; rfl
theorem spikeV_iff {p c q : S23} (hp : InB p.f0 ∧ InB p.f1) (hc : InB c.f0 ∧ InB c.f1) (hq : InB q.f0 ∧ InB q.f1) (h1 : ¬ (p.f0 = c.f0 ∧ p.f1 = c.f1)) (h2 : ¬ (c.f0 = q.f0 ∧ c.f1 = q.f1)) :
    spikeV p.f0 p.f1 c.f0 c.f1 q.f0 q.f1 = true ↔ (onS p c q = true ∨ onS c q p = true) := by
  rw [onS, onS, onV_iff hp hc hq, onV_iff hc hq hp, ← spike_iff h1 h2]
  have e : spikeV p.f0 p.f1 c.f0 c.f1 q.f0 q.f1 = (if crossW p.f0 p.f1 c.f0 c.f1 q.f0 q.f1 = 0 then decide (wrap64 (wrap64 (wrap64 (p.f0 - c.f0) * wrap64 (q.f0 - c.f0)) + wrap64 (wrap64 (p.f1 - c.f1) * wrap64 (q.f1 - c.f1))) > 0) else false) := by
    unfold spikeV geo_spike.f
    change ((if crossW p.f0 p.f1 c.f0 c.f1 q.f0 q.f1 = 0 then some _ else some false : Option Bool)).getD false = _
    split <;> rfl
  rw [e, crossW_in hp.1 hp.2 hc.1 hc.2 hq.1 hq.2]
  unfold InB at *
  rw [w64 (n := p.f0 - c.f0) (by omega) (by omega), w64 (n := q.f0 - c.f0) (by omega) (by omega), w64 (n := p.f1 - c.f1) (by omega) (by omega), w64 (n := q.f1 - c.f1) (by omega) (by omega)]
  have k1 := prod_le (x := p.f0 - c.f0) (y := q.f0 - c.f0) (by omega) (by omega) (by omega) (by omega)
  have k2 := prod_le (x := p.f1 - c.f1) (y := q.f1 - c.f1) (by omega) (by omega) (by omega) (by omega)
  rw [w64 (n := (p.f0 - c.f0) * (q.f0 - c.f0)) (by omega) (by omega), w64 (n := (p.f1 - c.f1) * (q.f1 - c.f1)) (by omega) (by omega), w64 (by omega) (by omega)]
  split
  · rw [decide_eq_true_iff]
    exact ⟨fun h => ⟨‹_›, h⟩, fun h => h.2⟩
  · exact ⟨fun h => (by cases h), fun h => absurd h.1 ‹_›⟩
theorem tangled_same {l : List S23} (h : Fine l) : tangledV l = refTangled l := by
  have hl := h.len
  rw [Bool.eq_iff_iff, tangledV_iff, refTangled_iff]
  have sp : ∀ i, i + 1 < l.length → (spikeAt l i = true ↔ refPair l i (i + 1) = true) := by
    intro i hi
    have e1 := nx_lt (l := l) (i := i + 1) hi
    have t1 := h.two i (by omega)
    have t2 := h.two (i + 1) hi
    rw [e1] at t1
    obtain ⟨j, hj, ej⟩ := nx_pt' (l := l) (i := i + 1 + 1) (by omega)
    rw [spikeAt, refPair, if_pos rfl, Bool.or_eq_true, e1]
    rw [ej] at t2 ⊢
    exact spikeV_iff (h.ins i (by omega)) (h.ins (i + 1) hi) (h.ins j hj) t1 t2
  have sl : spikeAt l (l.length - 1) = true ↔ refPair l 0 (l.length - 1) = true := by
    have e0 : l.length - 1 + 1 = l.length := by omega
    have e2 : l.length - 1 + 2 = l.length + 1 := by omega
    have t1 := h.two (l.length - 1) (by omega)
    have t2 := h.two 0 (by omega)
    rw [e0, nx_len (by omega)] at t1
    rw [nx_lt (by omega)] at t2
    rw [spikeAt, refPair, if_neg (by omega), if_pos ⟨rfl, rfl⟩, Bool.or_eq_true, e0, e2, nx_len (by omega), nx_len1 (by omega), nx_lt (l := l) (i := 0 + 1) (by omega)]
    rw [spikeV_iff (h.ins _ (by omega)) (h.ins 0 (by omega)) (h.ins 1 (by omega)) t1 t2, Or.comm]
  have sm : ∀ i j, i + 2 ≤ j → j < l.length → ¬ (i = 0 ∧ j = l.length - 1) → refPair l i j = pairAt l i j := by
    intro i j h1 h2 h3
    obtain ⟨j', hj, ej⟩ := nx_pt' (l := l) (i := j + 1) (by omega)
    rw [refPair, if_neg (by omega), if_neg h3, pairAt, nx_lt (l := l) (i := i + 1) (by omega), ej]
    refine common_meet ?_
    have q : ∀ k, k < l.length → outP ⟨(pt l k).f0, (pt l k).f1⟩ = false := fun k hk => (outP_eq _ _).2 (h.ins k hk)
    simp [out4, q i (by omega), q (i + 1) (by omega), q j h2, q j' hj]
  constructor
  · rintro (⟨i, h1, h2⟩ | ⟨i, j, h1, h2, h3, h4⟩)
    · by_cases c : i + 1 < l.length
      · exact ⟨i, i + 1, by omega, c, (sp i c).1 h2⟩
      · obtain rfl : i = l.length - 1 := by omega
        exact ⟨0, l.length - 1, by omega, by omega, sl.1 h2⟩
    · exact ⟨i, j, by omega, h2, by rw [sm i j h1 h2 h3]; exact h4⟩
  · rintro ⟨i, j, h1, h2, h3⟩
    by_cases c1 : j = i + 1
    · subst c1
      exact .inl ⟨i, by omega, (sp i h2).2 h3⟩
    by_cases c2 : i = 0 ∧ j = l.length - 1
    · obtain ⟨rfl, rfl⟩ := c2
      exact .inl ⟨l.length - 1, by omega, sl.2 h3⟩
    · exact .inr ⟨i, j, by omega, h2, c2, by rw [← sm i j (by omega) h2 c2]; exact h3⟩
theorem refV_simple (l : List S23) : refV l = simpleV l := by
  unfold refV simpleV
  by_cases c1 : l.length < 3
  · rw [if_pos c1, if_pos c1]
  by_cases c2 : 64 < l.length
  · rw [if_neg c1, if_neg c1, if_pos c2, if_pos c2]
  rw [if_neg c1, if_neg c1, if_neg c2, if_neg c2]
  have eo : anyF (fun i => outP (pt l i)) l.length l.length = l.any outP := by
    rw [Bool.eq_iff_iff, anyF_iff _ (Nat.le_refl _), List.any_eq_true]
    constructor
    · rintro ⟨i, _, h2, h3⟩
      exact ⟨l[i], List.getElem_mem h2, by have e : pt l i = l[i] := by simp [pt, rd_T23, h2]
                                           rw [← e]; exact h3⟩
    · rintro ⟨x, hx, h3⟩
      obtain ⟨i, hi, rfl⟩ := List.getElem_of_mem hx
      exact ⟨i, by omega, hi, by have e : pt l i = l[i] := by simp [pt, rd_T23, hi]
                                 rw [e]; exact h3⟩
  have et : anyF (fun i => twin (pt l i, nx l (i + 1))) l.length l.length = (upt l l.length).any twin := by
    rw [Bool.eq_iff_iff, anyF_iff _ (Nat.le_refl _), List.any_eq_true]
    constructor
    · rintro ⟨i, _, h2, h3⟩
      exact ⟨_, List.mem_map.2 ⟨i, List.mem_range.2 h2, rfl⟩, h3⟩
    · rintro ⟨x, hx, h3⟩
      obtain ⟨i, hi, rfl⟩ := List.mem_map.1 hx
      exact ⟨i, by omega, List.mem_range.1 hi, h3⟩
  rw [eo, et]
  by_cases c3 : l.any outP = true
  · rw [if_pos c3, if_pos c3]
  by_cases c4 : (upt l l.length).any twin = true
  · rw [if_neg c3, if_neg c3, if_pos c4, if_pos c4]
  rw [if_neg c3, if_neg c3, if_neg c4, if_neg c4, tangled_same ⟨by omega, fun i hi => ?_, fun i hi ht => ?_⟩]
  · have e : pt l i = l[i] := by simp [pt, rd_T23, hi]
    rw [e]
    exact (outP_eq _ _).1 (Bool.eq_false_iff.mpr (List.any_eq_false.1 (Bool.eq_false_iff.mpr c3) l[i] (List.getElem_mem hi)))
  · refine List.any_eq_false.1 (Bool.eq_false_iff.mpr c4) (pt l i, nx l (i + 1)) (List.mem_map.2 ⟨i, List.mem_range.2 hi, rfl⟩) ?_
    simp [twin, ht.1, ht.2]
end Go.Proofs.Ytannklfnfacpeaa.X
