/- A polygon that Simple takes is simple: it winds about a point off it at most once. -/
import Derived.Test.YtannklfnfacpeaaXMA1
import Derived.Test.YtannklfnfacpeaaXMPolyA
import Derived.Test.YtannklfnfacpeaaXMWind
namespace Go.Proofs.Ytannklfnfacpeaa.X
open Go.RowKit Go.Proofs.YtannklfnfacpeaaW.PrintWords Go.Proofs.YtannklfnfacpeaaW.PrintLast Go.Proofs.YtannklfnfacpeaaW.PrintMore
set_option linter.unusedVariables false
set_option linter.unusedSimpArgs false
theorem nx_mod (l : List S23) (i d : Nat) : nx l (i + d) = nx l (i % l.length + d) := by rw [nx, nx, Nat.mod_add_mod]
theorem nx_at (l : List S23) (i : Nat) : nx l i = pt l (i % l.length) := rfl
theorem simp_of {l : List S23} (hl : simpleV l = 0) : Simp l.length (fun i => (nx l i).f0) (fun i => (nx l i).f1) := by
  have h := simpleV_zero hl
  have h0 : 0 < l.length := by omega
  have inb : ∀ i, InB (nx l i).f0 ∧ InB (nx l i).f1 := fun i => pt_in h.2.2.1 (Nat.mod_lt i h0)
  have md : ∀ i, i % l.length < l.length := fun i => Nat.mod_lt i h0
  have ne : ∀ i, ¬ ((nx l i).f0 = (nx l (i + 1)).f0 ∧ (nx l i).f1 = (nx l (i + 1)).f1) := by
    intro i ht
    rw [nx_mod l i 1] at ht
    refine List.any_eq_false.1 h.2.2.2.1 (pt l (i % l.length), nx l (i % l.length + 1)) (List.mem_map.2 ⟨i % l.length, List.mem_range.2 (md i), rfl⟩) ?_
    rw [nx_at l i] at ht
    simp [twin, ht.1, ht.2]
  have nt : ¬ tangledV l = true := by rw [h.2.2.2.2]; exact Bool.false_ne_true
  rw [tangledV_iff] at nt
  have spk : ∀ i, ¬ OnI (nx l i).f0 (nx l i).f1 (nx l (i + 1)).f0 (nx l (i + 1)).f1 (nx l (i + 2)).f0 (nx l (i + 2)).f1 ∧ ¬ OnI (nx l (i + 1)).f0 (nx l (i + 1)).f1 (nx l (i + 2)).f0 (nx l (i + 2)).f1 (nx l i).f0 (nx l i).f1 := by
    intro i
    have e : spikeAt l (i % l.length) = true ↔ _ := spikeI (p := nx l i) (c := nx l (i % l.length + 1)) (q := nx l (i % l.length + 2)) (inb _) (inb _) (inb _) (by rw [← nx_mod]; exact ne i) (by rw [← nx_mod, ← nx_mod]; exact ne (i + 1))
    rw [← nx_mod, ← nx_mod] at e
    refine ⟨fun g => nt (.inl ⟨_, md i, e.2 (.inl g)⟩), fun g => nt (.inl ⟨_, md i, e.2 (.inr g)⟩)⟩
  have pair : ∀ a b, a + 2 ≤ b → b < l.length → ¬ (a = 0 ∧ b = l.length - 1) → ¬ GeoI (nx l a).f0 (nx l a).f1 (nx l (a + 1)).f0 (nx l (a + 1)).f1 (nx l b).f0 (nx l b).f1 (nx l (b + 1)).f0 (nx l (b + 1)).f1 := by
    intro a b h1 h2 h3 g
    refine nt (.inr ⟨a, b, h1, h2, h3, ?_⟩)
    unfold pairAt
    rw [← nx_lt (l := l) (i := a) (by omega), ← nx_lt (l := l) (i := a + 1) (by omega), ← nx_lt (l := l) (i := b) h2]
    exact (meetV_iff (inb _) (inb _) (inb _) (inb _)).2 g
  refine ⟨h.1, fun i => ?_, fun i => ?_, fun i d h1 h2 => ?_, ne, fun i => (spk i).1, fun i => (spk i).2, fun i => ?_⟩
  · show (nx l (i + l.length)).f0 = (nx l i).f0
    rw [nx, nx, Nat.add_mod_right]
  · show (nx l (i + l.length)).f1 = (nx l i).f1
    rw [nx, nx, Nat.add_mod_right]
  · show ¬ GeoI (nx l i).f0 (nx l i).f1 (nx l (i + 1)).f0 (nx l (i + 1)).f1 (nx l (i + d)).f0 (nx l (i + d)).f1 (nx l (i + d + 1)).f0 (nx l (i + d + 1)).f1
    have hi := md i
    have e0 : nx l i = nx l (i % l.length) := by rw [nx, nx, Nat.mod_mod]
    rw [nx_mod l i 1, nx_mod l i d, Nat.add_assoc i d 1, nx_mod l i (d + 1), e0]
    generalize i % l.length = a at *
    by_cases c : a + d < l.length
    · exact pair a (a + d) (by omega) c (by omega)
    · have e1 : nx l (a + d) = nx l (a + d - l.length) := by rw [nx, nx, ← Nat.mod_eq_sub_mod (by omega)]
      have e2 : nx l (a + (d + 1)) = nx l (a + d - l.length + 1) := by
        rw [nx, nx, show a + d - l.length + 1 = a + (d + 1) - l.length by omega, ← Nat.mod_eq_sub_mod (by omega)]
      rw [e1, e2]
      exact fun g => pair (a + d - l.length) a (by omega) hi (by omega) (geo_turn2 g)
  · have := inb i
    unfold InB at this
    unfold InC
    show (_ ≤ (nx l i).f0 ∧ (nx l i).f0 ≤ _) ∧ (_ ≤ (nx l i).f1 ∧ (nx l i).f1 ≤ _)
    omega
theorem wsum_W0 {l : List S23} (p q : Int) : ∀ k, k ≤ l.length → wsum l p q k = W0 k (fun i => (nx l i).f0) (fun i => (nx l i).f1) p q
  | 0, _ => rfl
  | k + 1, h => by
    have ih := wsum_W0 (l := l) p q k (by omega)
    unfold W0 at ih ⊢
    rw [wsum, sm, ih, ← nx_lt (l := l) (i := k) (by omega)]
/-- Off a polygon that Simple takes: the winding is 0, or one and the same of 1, -1. -/
theorem wsum_one {l : List S23} (hl : simpleV l = 0) : ∃ L, ∀ p q, InB p ∧ InB q → (∀ k, k < l.length → ¬ OnI (pt l k).f0 (pt l k).f1 (nx l (k + 1)).f0 (nx l (k + 1)).f1 p q) →
    wsum l p q l.length = 0 ∨ ((L = 0 ∨ L = 1) ∧ wsum l p q l.length = 2 * L - 1) := by
  obtain ⟨L, h⟩ := wind_one (simp_of hl)
  refine ⟨L, fun p q hp hn => ?_⟩
  rw [wsum_W0 p q _ (Nat.le_refl _)]
  refine h p q ?_ fun k hk => ?_
  · unfold InB at hp; unfold InC; omega
  · have := hn k hk
    rw [← nx_lt hk] at this
    exact this
end Go.Proofs.Ytannklfnfacpeaa.X
