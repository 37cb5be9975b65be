/- What is known of the temporaries: laws of the tree. -/
import Derived.Test.YtfjlaplhglfcaaaExB
namespace Go.Proofs.Ytfjlaplhglfcaaa.Ex
open Go
theorem Tr.get_nd (l r : Tr) (v : Option Value) (i : Nat) : (Tr.nd l v r).get i = if i = 0 then v else if i % 2 = 1 then l.get (i / 2) else r.get (i / 2 - 1) := by
  show (bif Nat.beq i 0 then v else bif Nat.beq (i % 2) 1 then l.get (i / 2) else r.get (i / 2 - 1)) = _
  by_cases h0 : i = 0
  · subst h0; rfl
  · have e0 : Nat.beq i 0 = false := (match i, h0 with | 0, h0 => absurd rfl h0 | n + 1, _ => rfl)
    rw [e0, if_neg h0]
    simp only [cond_false]
    by_cases h1 : i % 2 = 1
    · rw [h1, if_pos rfl]; rfl
    · have : i % 2 = 0 := by omega
      rw [this]; rfl
theorem Tr.set_nd (l r : Tr) (v u : Option Value) (i : Nat) : (Tr.nd l v r).set i u = if i = 0 then .nd l u r else if i % 2 = 1 then .nd (l.set (i / 2) u) v r else .nd l v (r.set (i / 2 - 1) u) := by
  show (bif Nat.beq i 0 then Tr.nd l u r else bif Nat.beq (i % 2) 1 then .nd (l.set (i / 2) u) v r else .nd l v (r.set (i / 2 - 1) u)) = _
  by_cases h0 : i = 0
  · subst h0; rfl
  · have e0 : Nat.beq i 0 = false := (match i, h0 with | 0, h0 => absurd rfl h0 | n + 1, _ => rfl)
    rw [e0, if_neg h0]
    simp only [cond_false]
    by_cases h1 : i % 2 = 1
    · rw [h1, if_pos rfl]; rfl
    · have : i % 2 = 0 := by omega
      rw [this]; rfl
theorem Tr.get_set_ne : ∀ (t : Tr) {i j : Nat} (v : Option Value), i ≠ j → (t.set i v).get j = t.get j
  | .nil, _, _, _, _ => rfl
  | .nd l x r, i, j, v, h => by
    rw [Tr.set_nd]
    by_cases h0 : i = 0
    · subst h0
      have j0 : j ≠ 0 := fun c => h c.symm
      rw [if_pos rfl, Tr.get_nd, Tr.get_nd, if_neg j0, if_neg j0]
    · rw [if_neg h0]
      by_cases h1 : i % 2 = 1
      · rw [if_pos h1, Tr.get_nd, Tr.get_nd]
        by_cases j0 : j = 0
        · rw [if_pos j0, if_pos j0]
        · rw [if_neg j0, if_neg j0]
          by_cases j1 : j % 2 = 1
          · rw [if_pos j1, if_pos j1, Tr.get_set_ne l v (by omega)]
          · rw [if_neg j1, if_neg j1]
      · rw [if_neg h1, Tr.get_nd, Tr.get_nd]
        by_cases j0 : j = 0
        · rw [if_pos j0, if_pos j0]
        · rw [if_neg j0, if_neg j0]
          by_cases j1 : j % 2 = 1
          · rw [if_pos j1, if_pos j1]
          · rw [if_neg j1, if_neg j1, Tr.get_set_ne r v (by omega)]
theorem Tr.get_set : ∀ (t : Tr) {i : Nat} {v : Option Value} {u : Value}, (t.set i v).get i = some u → v = some u
  | .nil, _, _, _, h => by cases h
  | .nd l x r, i, v, u, h => by
    rw [Tr.set_nd] at h
    by_cases h0 : i = 0
    · subst h0
      rw [if_pos rfl, Tr.get_nd, if_pos rfl] at h
      exact h
    · rw [if_neg h0] at h
      by_cases h1 : i % 2 = 1
      · rw [if_pos h1, Tr.get_nd, if_neg h0, if_pos h1] at h
        exact Tr.get_set l h
      · rw [if_neg h1, Tr.get_nd, if_neg h0, if_neg h1] at h
        exact Tr.get_set r h
theorem Tr.full_get : ∀ (n i : Nat), (Tr.full n).get i = none
  | 0, _ => rfl
  | n + 1, i => by
    show (Tr.nd (Tr.full n) none (Tr.full n)).get i = none
    rw [Tr.get_nd]
    split
    · rfl
    · split <;> exact Tr.full_get n _
theorem Fr.get_eq (fr : Fr) (i : Nat) : fr.get i = if i < fr.n then fr.t.get i else none := by
  unfold Fr.get
  by_cases h : i < fr.n
  · have : Nat.blt i fr.n = true := Nat.ble_eq_true_of_le h
    rw [this, if_pos h]; rfl
  · have : Nat.blt i fr.n = false := by
      rw [Bool.eq_false_iff]
      intro c
      exact h (Nat.le_of_ble_eq_true c)
    rw [this, if_neg h]; rfl
theorem Fr.empty_get (n i : Nat) : (Fr.empty n).get i = none := by
  rw [Fr.get_eq]
  split
  · exact Tr.full_get _ _
  · rfl
theorem Fr.set_n (fr : Fr) (i : Nat) (v : Option Value) : (fr.set i v).n = fr.n := rfl
theorem Fr.get_ne (fr : Fr) {i j : Nat} (v : Option Value) (h : i ≠ j) : (fr.set i v).get j = fr.get j := by
  rw [Fr.get_eq, Fr.get_eq, Fr.set_n]
  split
  · exact Tr.get_set_ne _ v h
  · rfl
theorem Fr.get_set (fr : Fr) {i : Nat} {v : Option Value} {u : Value} (h : (fr.set i v).get i = some u) : i < fr.n ∧ v = some u := by
  rw [Fr.get_eq, Fr.set_n] at h
  split at h
  · rename_i hi
    exact ⟨hi, Tr.get_set fr.t h⟩
  · cases h
theorem frOf_n (n : Nat) : ∀ l, (frOf n l).n = n
  | [] => rfl
  | (t, v) :: r => by
    show ((frOf n r).set t (some v)).n = n
    rw [Fr.set_n, frOf_n n r]
/-- What a list tells of a frame. -/
theorem frOf_get (n : Nat) : ∀ (l : List (Nat × Value)) (t : Nat) (v : Value), (frOf n l).get t = some v → (t, v) ∈ l
  | [], t, v, h => by
    rw [show frOf n [] = Fr.empty n from rfl, Fr.empty_get] at h
    cases h
  | (s, u) :: r, t, v, h => by
    have h' : ((frOf n r).set s (some u)).get t = some v := h
    by_cases hs : s = t
    · subst hs
      have h1 := (Fr.get_set _ h').2
      cases h1
      exact List.mem_cons_self
    · rw [Fr.get_ne _ _ hs] at h'
      exact List.mem_cons_of_mem _ (frOf_get n r t v h')
theorem frArgs_n (fr : Fr) : ∀ (i : Nat) (vs : List Value), (frArgs fr i vs).n = fr.n
  | _, [] => rfl
  | i, v :: vs => by
    show ((frArgs fr (i + 1) vs).set i (some v)).n = fr.n
    rw [Fr.set_n, frArgs_n fr (i + 1) vs]
theorem frArgs_get (fr : Fr) : ∀ (i : Nat) (vs : List Value) (t : Nat) (v : Value), (frArgs fr i vs).get t = some v → (i ≤ t ∧ vs[t - i]? = some v) ∨ fr.get t = some v
  | _, [], t, v, h => .inr h
  | i, u :: vs, t, v, h => by
    have h' : ((frArgs fr (i + 1) vs).set i (some u)).get t = some v := h
    have old : (frArgs fr (i + 1) vs).get t = some v → (i ≤ t ∧ (u :: vs)[t - i]? = some v) ∨ fr.get t = some v := fun h1 => by
      rcases frArgs_get fr (i + 1) vs t v h1 with ⟨h2, h3⟩ | h2
      · refine .inl ⟨by omega, ?_⟩
        have : t - i = (t - (i + 1)) + 1 := by omega
        rw [this]
        simpa using h3
      · exact .inr h2
    by_cases hs : i = t
    · subst hs
      exact .inl ⟨Nat.le_refl _, by simpa using (Fr.get_set _ h').2⟩
    · rw [Fr.get_ne _ _ hs] at h'
      exact old h'
end Go.Proofs.Ytfjlaplhglfcaaa.Ex
