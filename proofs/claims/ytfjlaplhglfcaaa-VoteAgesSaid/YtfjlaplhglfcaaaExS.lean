/- Regions whose order is drawn: what stands before what. -/
import Derived.Test.YtfjlaplhglfcaaaExR
import Derived.Orders
namespace Go.Proofs.Ytfjlaplhglfcaaa.Ex
open Go
set_option linter.unusedVariables false
set_option linter.unusedSimpArgs false
theorem fold_push {β : Type} (f : Array Nat → β → Nat) : ∀ (l : List β) (acc : Array Nat),
    (l.foldl (fun acc o => acc.push (f acc o)) acc).size = acc.size + l.length ∧ (∀ k, k < acc.size → (l.foldl (fun acc o => acc.push (f acc o)) acc)[k]? = acc[k]?) ∧
    ∀ k o, l[k]? = some o → ∃ acc' : Array Nat, acc'.size = acc.size + k ∧ (∀ m, m < acc'.size → (l.foldl (fun acc o => acc.push (f acc o)) acc)[m]? = acc'[m]?) ∧ (l.foldl (fun acc o => acc.push (f acc o)) acc)[acc.size + k]? = some (f acc' o)
  | [], acc => ⟨rfl, fun _ _ => rfl, fun k o h => by simp at h⟩
  | x :: l, acc => by
    obtain ⟨h1, h2, h3⟩ := fold_push f l (acc.push (f acc x))
    rw [List.foldl_cons]
    refine ⟨by rw [h1]; simp; omega, fun k hk => ?_, fun k o hk => ?_⟩
    · rw [h2 k (by simp; omega), Array.getElem?_push, if_neg (by omega)]
    · cases k with
      | zero =>
        cases hk
        refine ⟨acc, rfl, fun m hm => ?_, ?_⟩
        · rw [h2 m (by simp; omega), Array.getElem?_push, if_neg (by omega)]
        · rw [Nat.add_zero, h2 acc.size (by simp)]
          simp
      | succ k =>
        obtain ⟨acc', k1, k2, k3⟩ := h3 k o (by simpa using hk)
        refine ⟨acc', by rw [k1]; simp; omega, k2, ?_⟩
        rw [← k3]
        congr 1
        simp
        omega
theorem edges_bit {md : Region.Mode} {acc : Array Nat} {i : Nat} : ∀ (es : List Edge) (s : Nat), (es.foldl (fun s e => if Region.binds md e then s ||| 2 ^ e.on ||| acc.getD e.on 0 else s) s).testBit i = true →
    s.testBit i = true ∨ ∃ e, e ∈ es ∧ Region.binds md e = true ∧ (i = e.on ∨ (acc.getD e.on 0).testBit i = true)
  | [], s, h => .inl h
  | e :: es, s, h => by
    rw [List.foldl_cons] at h
    rcases edges_bit es _ h with h | ⟨e', k1, k2⟩
    · split at h
      · rename_i hb
        rw [Nat.testBit_or, Nat.testBit_or, Bool.or_eq_true, Bool.or_eq_true, Nat.testBit_two_pow] at h
        rcases h with (h | h) | h
        · exact .inl h
        · exact .inr ⟨e, by simp, hb, .inl (by simpa using (of_decide_eq_true h).symm)⟩
        · exact .inr ⟨e, by simp, hb, .inr h⟩
      · exact .inl h
    · exact .inr ⟨e', by simp [k1], k2⟩
theorem before_edge {ops : Array Oper} {i j : Nat} (h : ((Region.before ops).getD j 0).testBit i = true) :
    ∃ o e, ops[j]? = some o ∧ e ∈ o.after.toList ∧ Region.binds .any e = true ∧ (i = e.on ∨ (e.on < j ∧ ((Region.before ops).getD e.on 0).testBit i = true)) := by
  unfold Region.before at h ⊢
  rw [← Array.foldl_toList] at h ⊢
  have key := fold_push (fun (acc : Array Nat) (o : Oper) => o.after.foldl (fun s e => if Region.binds .any e then s ||| 2 ^ e.on ||| acc.getD e.on 0 else s) 0) ops.toList #[]
  revert h key
  generalize ops.toList.foldl (fun acc o => acc.push (o.after.foldl (fun s e => if Region.binds .any e then s ||| 2 ^ e.on ||| acc.getD e.on 0 else s) 0)) #[] = R
  intro h key
  obtain ⟨h1, _, h3⟩ := key
  have hj : j < ops.size := by
    rcases Nat.lt_or_ge j ops.size with c | c
    · exact c
    · rw [Array.getD_eq_getD_getElem?, Array.getElem?_eq_none (by rw [h1]; simp; omega)] at h
      simp at h
  obtain ⟨acc', k1, k2, k3⟩ := h3 j ops[j] (by simp [hj])
  simp only [List.size_toArray, List.length_nil, Nat.zero_add] at k1 k3
  rw [Array.getD_eq_getD_getElem?, k3, Option.getD_some, ← Array.foldl_toList] at h
  rcases edges_bit _ _ h with h | ⟨e, q1, q2, q3⟩
  · simp at h
  · refine ⟨ops[j], e, by simp [hj], q1, q2, q3.imp id fun hb => ?_⟩
    rcases Nat.lt_or_ge e.on acc'.size with c | c
    · refine ⟨by omega, ?_⟩
      rw [Array.getD_eq_getD_getElem?, k2 e.on c, ← Array.getD_eq_getD_getElem?]
      exact hb
    · rw [Array.getD_eq_getD_getElem?, Array.getElem?_eq_none c] at hb
      simp at hb
/-- A done-set that edges close is closed under 'before'. -/
theorem before_closed {ops : Array Oper} {S : Nat → Prop} (hS : ∀ j o e, S j → ops[j]? = some o → e ∈ o.after.toList → Region.binds .any e = true → S e.on) : ∀ (j i : Nat), S j → ((Region.before ops).getD j 0).testBit i = true → S i := by
  intro j
  induction j using Nat.strongRecOn with
  | _ j ih =>
    intro i hj hb
    obtain ⟨o, e, h1, h2, h3, h4⟩ := before_edge hb
    have he := hS j o e hj h1 h2 h3
    rcases h4 with rfl | ⟨hlt, hb'⟩
    · exact he
    · exact ih e.on hlt i he hb'
end Go.Proofs.Ytfjlaplhglfcaaa.Ex
