/- Regions whose order is drawn: what a done-set shows of a thing that the operations touch one after the other. -/
import Derived.Test.YtfjlaplhglfcaaaExT
namespace Go.Proofs.Ytfjlaplhglfcaaa.Ex
open Go
set_option linter.unusedVariables false
set_option linter.unusedSimpArgs false
section
variable {α : Type}
/-- The thing after the last done operation that touches it (at which level, and what), if g tells it in the order of the text. -/
def cur (g : Nat → α) (hit : Nat → Bool) : Nat → Nat × α
  | 0 => (0, g 0)
  | n + 1 => if hit n = true then (n + 1, g (n + 1)) else cur g hit n
theorem cur_stay {g : Nat → α} {hit : Nat → Bool} {i : Nat} : ∀ (n : Nat), i ≤ n → (∀ k, i ≤ k → k < n → hit k = false) → cur g hit n = cur g hit i
  | 0, h, _ => by obtain rfl : i = 0 := by omega
                  rfl
  | n + 1, h, hk => by
    by_cases c : i = n + 1
    · rw [c]
    · unfold cur
      rw [if_neg (by rw [hk n (by omega) (by omega)]; simp)]
      exact (cur_stay n (by omega) fun k h1 h2 => hk k h1 (by omega)).trans (by cases i <;> rfl)
theorem cur_level {g : Nat → α} {hit : Nat → Bool} : ∀ n, (cur g hit n).1 ≤ n ∧ (cur g hit n).2 = g (cur g hit n).1
  | 0 => ⟨Nat.le_refl _, rfl⟩
  | n + 1 => by
    unfold cur
    split
    · exact ⟨Nat.le_refl _, rfl⟩
    · exact ⟨Nat.le_succ_of_le (cur_level n).1, (cur_level n).2⟩
/-- Where all that touches it before i is done, and nothing after: what the text shows at i. -/
theorem cur_at {g : Nat → α} {S touch : Nat → Bool} {i n : Nat} (hg : ∀ k, k < n → touch k = false → g (k + 1) = g k) (hi : i ≤ n) (h1 : ∀ k, k < i → touch k = true → S k = true) (h2 : ∀ k, i ≤ k → k < n → touch k = true → S k = false) :
    (cur g (fun k => S k && touch k) n).1 ≤ i ∧ (cur g (fun k => S k && touch k) n).2 = g i := by
  rw [cur_stay n hi fun k hk hkn => by
    cases ht : touch k with
    | false => simp
    | true => rw [h2 k hk hkn ht]; rfl]
  refine ⟨(cur_level i).1, ?_⟩
  have key : ∀ m, m ≤ i → (cur g (fun k => S k && touch k) m).2 = g m := by
    intro m
    induction m with
    | zero => intro _; rfl
    | succ m ih =>
      intro hm
      unfold cur
      cases ht : touch m with
      | true => rw [h1 m (by omega) ht]; rfl
      | false =>
        rw [if_neg (by simp), hg m (by omega) ht]
        exact ih (by omega)
  exact key i (Nat.le_refl _)
/-- One more operation done, after which nothing that is done touches it. -/
theorem cur_done {g : Nat → α} {S S' touch : Nat → Bool} {i n : Nat} (hi : i < n) (hS : S' i = true) (ht : touch i = true) (h2 : ∀ k, i < k → k < n → touch k = true → S' k = false) :
    cur g (fun k => S' k && touch k) n = (i + 1, g (i + 1)) := by
  rw [cur_stay (i := i + 1) n (by omega) fun k hk hkn => by
    cases hk' : touch k with
    | false => simp
    | true => rw [h2 k (by omega) hkn hk']; rfl]
  unfold cur
  rw [if_pos (by simp [hS, ht])]
theorem cur_other {g : Nat → α} {S S' touch : Nat → Bool} {i : Nat} (hS : ∀ k, k ≠ i → S' k = S k) (ht : touch i = false) : ∀ n, cur g (fun k => S' k && touch k) n = cur g (fun k => S k && touch k) n
  | 0 => rfl
  | n + 1 => by
    unfold cur
    by_cases c : n = i
    · subst c
      simp only [ht, Bool.and_false, Bool.false_eq_true, if_false]
      exact cur_other hS ht n
    · simp only [hS n c]
      split
      · rfl
      · exact cur_other hS ht n
end
end Go.Proofs.Ytfjlaplhglfcaaa.Ex
