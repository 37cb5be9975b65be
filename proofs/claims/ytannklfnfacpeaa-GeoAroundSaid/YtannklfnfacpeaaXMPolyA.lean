/- Of a polygon's sides, by index: what is tangled. -/
import Derived.Test.YtannklfnfacpeaaXMTangle
import Derived.Test.YtannklfnfacpeaaXMSpike
namespace Go.Proofs.Ytannklfnfacpeaa.X
open Go.RowKit Go.Proofs.YtannklfnfacpeaaW.PrintWords Go.Proofs.YtannklfnfacpeaaW.PrintLast Go.Proofs.YtannklfnfacpeaaW.PrintMore
set_option linter.unusedVariables false
set_option linter.unusedSimpArgs false
theorem inner_iff {l : List S23} {i : Nat} : ∀ m, m ≤ l.length → (inner l i m = true ↔ ∃ j, l.length - m ≤ j ∧ j < l.length ∧ ¬ (i = 0 ∧ j = l.length - 1) ∧ pairAt l i j = true) := by
  intro m
  induction m with
  | zero => exact fun _ => ⟨fun h => (by cases h), fun ⟨j, h1, h2, _⟩ => by omega⟩
  | succ m ih =>
    intro hm
    rw [inner, Bool.or_eq_true, ih (by omega)]
    constructor
    · rintro (h | ⟨j, h1, h2, h3⟩)
      · by_cases c : i = 0 ∧ l.length - (m + 1) = l.length - 1
        · rw [if_pos c] at h; cases h
        · rw [if_neg c] at h
          exact ⟨l.length - (m + 1), by omega, by omega, c, h⟩
      · exact ⟨j, by omega, h2, h3⟩
    · rintro ⟨j, h1, h2, h3, h4⟩
      by_cases c : j = l.length - (m + 1)
      · subst c
        exact .inl (by rw [if_neg h3]; exact h4)
      · exact .inr ⟨j, by omega, h2, h3, h4⟩
theorem outer_iff {l : List S23} : ∀ m, m ≤ l.length → (outer l m = true ↔ ∃ i, l.length - m ≤ i ∧ i < l.length ∧ (spikeAt l i = true ∨ inner l i (l.length - i - 2) = true)) := by
  intro m
  induction m with
  | zero => exact fun _ => ⟨fun h => (by cases h), fun ⟨j, h1, h2, _⟩ => by omega⟩
  | succ m ih =>
    intro hm
    rw [outer, Bool.or_eq_true, Bool.or_eq_true, ih (by omega)]
    constructor
    · rintro (h | h | ⟨i, h1, h2, h3⟩)
      · exact ⟨l.length - (m + 1), by omega, by omega, .inl h⟩
      · exact ⟨l.length - (m + 1), by omega, by omega, .inr (by rw [show l.length - (l.length - (m + 1)) - 2 = m - 1 by omega]; exact h)⟩
      · exact ⟨i, by omega, h2, h3⟩
    · rintro ⟨i, h1, h2, h3⟩
      by_cases c : i = l.length - (m + 1)
      · subst c
        rw [show l.length - (l.length - (m + 1)) - 2 = m - 1 by omega] at h3
        rcases h3 with h3 | h3
        · exact .inl h3
        · exact .inr (.inl h3)
      · exact .inr (.inr ⟨i, by omega, h2, h3⟩)
theorem tangledV_iff {l : List S23} : tangledV l = true ↔ (∃ i, i < l.length ∧ spikeAt l i = true) ∨ (∃ i j, i + 2 ≤ j ∧ j < l.length ∧ ¬ (i = 0 ∧ j = l.length - 1) ∧ pairAt l i j = true) := by
  rw [tangledV, outer_iff _ (Nat.le_refl _)]
  constructor
  · rintro ⟨i, _, h2, h | h⟩
    · exact .inl ⟨i, h2, h⟩
    · obtain ⟨j, h3, h4, h5⟩ := (inner_iff _ (by omega)).1 h
      exact .inr ⟨i, j, by omega, h4, h5⟩
  · rintro (⟨i, h1, h2⟩ | ⟨i, j, h1, h2, h3⟩)
    · exact ⟨i, by omega, h1, .inl h2⟩
    · exact ⟨i, by omega, by omega, .inr ((inner_iff _ (by omega)).2 ⟨j, by omega, h2, h3⟩)⟩
structure Fine (l : List S23) : Prop where
  len : 3 ≤ l.length
  ins : ∀ i, i < l.length → InB (pt l i).f0 ∧ InB (pt l i).f1
  two : ∀ i, i < l.length → ¬ ((pt l i).f0 = (nx l (i + 1)).f0 ∧ (pt l i).f1 = (nx l (i + 1)).f1)
theorem nx_pt' {l : List S23} {i : Nat} (h : 0 < l.length) : ∃ j, j < l.length ∧ nx l i = pt l j := ⟨i % l.length, Nat.mod_lt _ h, rfl⟩
theorem nx_lt {l : List S23} {i : Nat} (h : i < l.length) : nx l i = pt l i := by rw [nx, Nat.mod_eq_of_lt h]; rfl
theorem nx_len {l : List S23} (h : 0 < l.length) : nx l l.length = pt l 0 := by rw [nx, Nat.mod_self]; rfl
theorem nx_len1 {l : List S23} (h : 1 < l.length) : nx l (l.length + 1) = pt l 1 := by rw [nx, Nat.add_mod_left, Nat.mod_eq_of_lt h]; rfl
theorem spikeI {p c q : S23} (hp : InB p.f0 ∧ InB p.f1) (hc : InB c.f0 ∧ InB c.f1) (hq : InB q.f0 ∧ InB q.f1) (h1 : ¬ (p.f0 = c.f0 ∧ p.f1 = c.f1)) (h2 : ¬ (c.f0 = q.f0 ∧ c.f1 = q.f1)) :
    spikeV p.f0 p.f1 c.f0 c.f1 q.f0 q.f1 = true ↔ (OnI p.f0 p.f1 c.f0 c.f1 q.f0 q.f1 ∨ OnI c.f0 c.f1 q.f0 q.f1 p.f0 p.f1) := by
  rw [← spike_iff h1 h2]
  have e : spikeV p.f0 p.f1 c.f0 c.f1 q.f0 q.f1 = (if crossW p.f0 p.f1 c.f0 c.f1 q.f0 q.f1 = 0 then decide (wrap64 (wrap64 (wrap64 (p.f0 - c.f0) * wrap64 (q.f0 - c.f0)) + wrap64 (wrap64 (p.f1 - c.f1) * wrap64 (q.f1 - c.f1))) > 0) else false) := by
    unfold spikeV geo_spike.f
    change ((if crossW p.f0 p.f1 c.f0 c.f1 q.f0 q.f1 = 0 then some _ else some false : Option Bool)).getD false = _
    split <;> rfl
  rw [e, crossW_in hp.1 hp.2 hc.1 hc.2 hq.1 hq.2]
  unfold InB at *
  rw [w64 (n := p.f0 - c.f0) (by omega) (by omega), w64 (n := q.f0 - c.f0) (by omega) (by omega), w64 (n := p.f1 - c.f1) (by omega) (by omega), w64 (n := q.f1 - c.f1) (by omega) (by omega)]
  have k1 := prod_le (x := p.f0 - c.f0) (y := q.f0 - c.f0) (by omega) (by omega) (by omega) (by omega)
  have k2 := prod_le (x := p.f1 - c.f1) (y := q.f1 - c.f1) (by omega) (by omega) (by omega) (by omega)
  rw [w64 (n := (p.f0 - c.f0) * (q.f0 - c.f0)) (by omega) (by omega), w64 (n := (p.f1 - c.f1) * (q.f1 - c.f1)) (by omega) (by omega), w64 (by omega) (by omega)]
  split
  · rw [decide_eq_true_iff]
    exact ⟨fun h => ⟨‹_›, h⟩, fun h => h.2⟩
  · exact ⟨fun h => (by cases h), fun h => absurd h.1 ‹_›⟩
end Go.Proofs.Ytannklfnfacpeaa.X
