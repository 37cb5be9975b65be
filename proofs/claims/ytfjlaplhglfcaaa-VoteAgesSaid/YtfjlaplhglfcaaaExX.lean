/- Regions whose order is drawn: what one operation leaves untouched. -/
import Derived.Test.YtfjlaplhglfcaaaExW
namespace Go.Proofs.Ytfjlaplhglfcaaa.Ex
open Go
set_option linter.unusedVariables false
set_option linter.unusedSimpArgs false
section
variable {P : Program} {all : Array Oper} {o : Oper} {fr fr' : Fr} {hp hp' : Hp} {s : Step}
theorem putT_len (d : Option Tmp) (v : Value) : (putT fr d v).n = fr.n := by
  cases d with
  | none => rfl
  | some d => exact Fr.set_n _ _ _
theorem putT_ne {d : Option Tmp} {v : Value} {t : Nat} (h : d ≠ some t) : (putT fr d v).get t = fr.get t := by
  cases d with
  | none => rfl
  | some d => exact Fr.get_ne _ _ (fun c => h (by rw [c]))
theorem OneStep.flen (h : OneStep P all o fr hp fr' hp' s) : fr'.n = fr.n := by
  rcases h with ⟨_, r, _, rfl, _⟩ | ⟨_, rfl, _⟩ <;> exact putT_len _ _
theorem OneStep.mono (h : OneStep P all o fr hp fr' hp' s) : hp.length ≤ hp'.length := by
  rcases h with ⟨_, r, hr, _, rfl, _⟩ | ⟨_, _, rfl, _⟩
  · exact hr.1.len
  · exact Nat.le_refl _
theorem OneStep.tmp (h : OneStep P all o fr hp fr' hp' s) {t : Nat} (ht : o.dst ≠ some t) : fr'.get t = fr.get t := by
  rcases h with ⟨_, r, _, rfl, _⟩ | ⟨_, rfl, _⟩ <;> exact putT_ne ht
theorem OneStep.blk (h : OneStep P all o fr hp fr' hp' s) {id : Nat} (hi : hits s id = false) : hp'.getD id .dead = hp.getD id .dead := by
  rcases h with ⟨_, r, hr, _, rfl, rfl⟩ | ⟨_, _, rfl, _⟩
  · simp only [hits, Bool.or_eq_false_iff, Bool.and_eq_false_iff, decide_eq_false_iff_not] at hi
    obtain ⟨h1, h2⟩ := hi
    have h1' : ¬ id ∈ r.wr := by simpa using h1
    rcases Nat.lt_or_ge id hp.length with c | c
    · exact hr.1.keep id c h1'
    · rcases h2 with h2 | h2
      · exact absurd c h2
      · rw [getD_out c, getD_out (by omega)]
  · rfl
theorem busy_mem : ∀ (n : Nat) (st : List Step) (i : Nat) (s : Step), st[i]? = some s → idle s = false → (n + i, s) ∈ busy n st
  | _, [], i, s, h, _ => by simp at h
  | n, x :: r, i, s, h, hs => by
    unfold busy
    cases i with
    | zero =>
      simp only [List.getElem?_cons_zero, Option.some.injEq] at h
      subst h
      rw [hs, if_neg Bool.false_ne_true]
      exact List.mem_cons_self
    | succ i =>
      have := busy_mem (n + 1) r i s (by simpa using h) hs
      have e : n + 1 + i = n + (i + 1) := by omega
      rw [e] at this
      split
      · exact this
      · exact List.mem_cons_of_mem _ this
theorem idle_clash {s t : Step} (h : idle s = true ∨ idle t = true) : clash s t = false := by
  have key : ∀ {s t : Step}, idle s = true → clash s t = false := by
    intro s t h
    unfold idle at h
    simp only [Bool.and_eq_true, List.isEmpty_iff, decide_eq_true_eq] at h
    have hh : ∀ b, hits s b = false := fun b => by
      unfold hits
      rw [h.1.2]
      simp only [List.contains_nil, Bool.false_or, Bool.and_eq_false_iff, decide_eq_false_iff_not]
      omega
    unfold clash
    rw [h.1.1, h.1.2]
    simp [hh]
  rcases h with h | h
  · exact key h
  · have := key (t := s) h
    unfold clash at this ⊢
    simp only [Bool.or_eq_false_iff] at this ⊢
    exact ⟨⟨⟨this.1.2, this.2⟩, this.1.1.1⟩, this.1.1.2⟩
theorem calm_spec {ops : Array Oper} {st : List Step} (hS : calmS ops = true) (h : calm ops st = true) :
    (∀ (j : Nat) (o : Oper) (e : Edge), ops[j]? = some o → e ∈ o.after.toList → Region.binds .any e = true → e.on < j) ∧
    ∀ i j, i < j → j < ops.size → ((Region.before ops).getD j 0).testBit i = true ∨
      (clash (st.getD i ⟨[], [], 0, 0⟩) (st.getD j ⟨[], [], 0, 0⟩) = false ∧ Oper.apart ops (ops.getD i default) (ops.getD j default) = true) := by
  unfold calmS at hS
  have h' := List.all_eq_true.1 hS
  refine ⟨fun j o e ho he hb => ?_, fun i j hij hj => ?_⟩
  · have hj : j < ops.size := by
      rcases Nat.lt_or_ge j ops.size with c | c
      · exact c
      · rw [Array.getElem?_eq_none c] at ho; cases ho
    have hk := h' j (List.mem_range.2 hj)
    rw [Bool.and_eq_true] at hk
    have hd : ops.getD j default = o := by rw [Array.getD_eq_getD_getElem?, ho]; rfl
    rw [hd] at hk
    have := List.all_eq_true.1 hk.1 e he
    rw [hb] at this
    simpa using this
  · have hk := h' j (List.mem_range.2 hj)
    rw [Bool.and_eq_true] at hk
    have hq := List.all_eq_true.1 hk.2 i (List.mem_range.2 hij)
    rw [Bool.or_eq_true] at hq
    rcases hq with hq | h2
    · exact .inl hq
    · cases hc : clash (st.getD i ⟨[], [], 0, 0⟩) (st.getD j ⟨[], [], 0, 0⟩) with
      | false => exact .inr ⟨rfl, h2⟩
      | true =>
        have nd : idle (st.getD i ⟨[], [], 0, 0⟩) = false ∧ idle (st.getD j ⟨[], [], 0, 0⟩) = false := by
          constructor <;> rw [Bool.eq_false_iff] <;> intro c
          · rw [idle_clash (.inl c)] at hc; cases hc
          · rw [idle_clash (.inr c)] at hc; cases hc
        have get : ∀ k, idle (st.getD k ⟨[], [], 0, 0⟩) = false → (k, st.getD k ⟨[], [], 0, 0⟩) ∈ busy 0 st := fun k hk => by
          have := busy_mem 0 st k (st.getD k ⟨[], [], 0, 0⟩) (by
            rw [List.getD_eq_getElem?_getD] at hk ⊢
            cases hv : st[k]? with
            | none => rw [hv] at hk; simp [idle] at hk
            | some s => rfl) hk
          rwa [Nat.zero_add] at this
        unfold calm at h
        have h1 := List.all_eq_true.1 (List.all_eq_true.1 h _ (get j nd.2)) _ (get i nd.1)
        simp only [hc, hij, decide_true, Bool.not_true, Bool.false_or] at h1
        exact .inl h1
end
end Go.Proofs.Ytfjlaplhglfcaaa.Ex
