/- Structs and arrays that are held against each other. -/
import Derived.Test.YtfjlaplhglfcaaaExF
namespace Go.Proofs.Ytfjlaplhglfcaaa.Ex
open Go
set_option linter.unusedVariables false
set_option linter.unusedSimpArgs false
section
variable {P : Program}
theorem partV_run {t : TypeId} {cs : Array Value} {off : Nat} {u : Value} (h : partV P t cs off = some u) (w : World) : (part t cs off).run P w = .ok u w := by
  unfold partV at h
  cases hg : aggT P t with
  | none => rw [hg] at h; cases h
  | some g =>
    rw [hg] at h
    simp only [Option.bind_some] at h
    cases g with
    | true =>
      rw [if_pos rfl] at h
      cases hn : sz P t with
      | none => rw [hn] at h; cases h
      | some n =>
        rw [hn] at h
        simp only [Option.bind_some] at h
        split at h
        · cases h
          simp [part, run_aggT hg, run_sz hn]
        · cases h
    | false =>
      rw [if_neg Bool.false_ne_true] at h
      have : cs[off]? = some u := by simpa using h
      simp [part, run_aggT hg, this]
theorem loop_run {α : Type} {W : World} (body : α → Option Bool × Unit → Sem (ForInStep (Option Bool × Unit))) (c : α → Bool) : ∀ (l : List α),
    (∀ x, x ∈ l → ∀ s, (body x s).run P W = .ok (if c x = true then .yield (none, ()) else .done (some false, ())) W) →
    (forIn l ((none, ()) : Option Bool × Unit) body).run P W = .ok (if l.all c = true then (none, ()) else (some false, ())) W
  | [], _ => rfl
  | x :: l, h => by
    have hx := h x List.mem_cons_self (none, ())
    simp only [List.forIn_cons, Sem.run_bind, hx, Result.andThen_ok]
    cases hc : c x with
    | true =>
      simp only [if_true, List.all_cons, hc, Bool.true_and]
      exact loop_run body c l fun y hy s => h y (List.mem_cons_of_mem _ hy) s
    | false =>
      simp [hc]
theorem eqAll_spec {α : Type} {f : α → Option Bool} : ∀ {l : List α} {b : Bool}, eqAll f l = some b → ∃ c : α → Bool, (∀ x, x ∈ l → f x = some (c x)) ∧ b = l.all c := by
  intro l b h
  refine ⟨fun x => (f x).getD false, ?_, ?_⟩
  · induction l generalizing b with
    | nil => intro x hx; cases hx
    | cons y l ih =>
      simp only [eqAll] at h
      cases hy : f y with
      | none => rw [hy] at h; cases h
      | some d =>
        rw [hy] at h
        simp only [Option.bind_some] at h
        cases hl : eqAll f l with
        | none => rw [hl] at h; cases h
        | some e =>
          intro x hx
          rcases List.mem_cons.1 hx with rfl | hx
          · show f x = some ((f x).getD false)
            rw [hy]; rfl
          · exact ih hl x hx
  · induction l generalizing b with
    | nil => simp only [eqAll, Option.some.injEq] at h; rw [← h]; rfl
    | cons y l ih =>
      simp only [eqAll] at h
      cases hy : f y with
      | none => rw [hy] at h; cases h
      | some d =>
        rw [hy] at h
        simp only [Option.bind_some] at h
        cases hl : eqAll f l with
        | none => rw [hl] at h; cases h
        | some e =>
          rw [hl] at h
          simp only [Option.map_some, Option.some.injEq] at h
          rw [← h, List.all_cons, hy, ← ih hl]
          rfl
theorem eqA_run : ∀ (d : Nat) {t : TypeId} {x y : Value} {b : Bool}, eqA P d t x y = some b → ∀ (D : Nat), d ≤ D → ∀ w : World, (Op.equalIn D t x y).run P w = .ok b w
  | 0, _, _, _, _, h, _, _, _ => by cases h
  | d + 1, t, x, y, b, h, 0, hD, w => by omega
  | d + 1, t, x, y, b, h, D + 1, hD, w => by
    have ih := fun {t : TypeId} {x y : Value} {b : Bool} (h : eqA P d t x y = some b) (w : World) => eqA_run d h D (by omega) w
    unfold eqA at h
    split at h
    · rename_i hu
      cases h
      rw [Op.equalIn]
      simp only [Sem.run_bind, run_und hu, Result.andThen_ok, Sem.run_pure]
    · rename_i hu
      split at h
      · rename_i hk
        cases h
        rw [Op.equalIn]
        simp only [Sem.run_bind, run_und hu, Result.andThen_ok, Sem.run_pure, hk, if_true]
      · cases h
    · rename_i hu
      cases h
      rw [Op.equalIn]
      simp only [Sem.run_bind, run_und hu, Result.andThen_ok, Sem.run_pure]
    · rename_i fs xs ys hu
      split at h
      · cases h
      · rename_i hst
        obtain ⟨c, h1, rfl⟩ := eqAll_spec h
        have hp : ∀ w : World, (program : Sem Program).run P w = .ok P w := fun _ => rfl
        rw [Op.equalIn]
        simp only [Sem.run_bind, run_und hu, Result.andThen_ok, hp, hst, if_false, Bool.false_eq_true]
        rw [← Array.forIn_toList, loop_run _ c fs.toList ?_]
        · simp only [Result.andThen_ok]
          cases fs.toList.all c <;> rfl
        · intro f hf s
          have hf := h1 f hf
          by_cases hn : f.name = "_"
          · rw [if_pos hn] at hf
            have : c f = true := by simpa using hf.symm
            simp [hn, this]
          · rw [if_neg hn] at hf
            cases hx : partV P f.type xs f.offset with
            | none => rw [hx] at hf; cases hf
            | some u =>
              cases hy : partV P f.type ys f.offset with
              | none => rw [hx, hy] at hf; cases hf
              | some v =>
                rw [hx, hy] at hf
                simp only [Option.bind_some] at hf
                have hn' : f.name ≠ "_" := hn
                simp only [hn', ne_eq, not_false_eq_true, if_true, Sem.run_bind, partV_run hx, partV_run hy, Result.andThen_ok, ih hf w]
                cases c f <;> rfl
    · rename_i len e xs ys hu
      cases hn : sz P e with
      | none => rw [hn] at h; cases h
      | some n =>
        rw [hn] at h
        simp only [Option.bind_some] at h
        obtain ⟨c, h1, rfl⟩ := eqAll_spec h
        rw [Op.equalIn]
        simp only [Sem.run_bind, run_und hu, Result.andThen_ok, run_sz hn]
        rw [Std.Legacy.Range.forIn_eq_forIn_range', loop_run _ c _ ?_]
        · simp only [Result.andThen_ok, Std.Legacy.Range.size, Nat.sub_zero, Nat.add_sub_cancel, Nat.div_one, List.range_eq_range']
          cases (List.range' 0 len 1).all c <;> rfl
        · intro i hi s
          have hi : i ∈ List.range len := by simpa [List.range_eq_range', Std.Legacy.Range.size] using hi
          have hf := h1 i hi
          cases hx : partV P e xs (i * n) with
          | none => rw [hx] at hf; cases hf
          | some u =>
            cases hy : partV P e ys (i * n) with
            | none => rw [hx, hy] at hf; cases hf
            | some v =>
              rw [hx, hy] at hf
              simp only [Option.bind_some] at hf
              simp only [Sem.run_bind, partV_run hx, partV_run hy, Result.andThen_ok, ih hf w]
              cases c i <;> rfl
    · cases h
theorem agg_eq {t : TypeId} {xs ys : Array Value} {b : Bool} (hg : P.eqGuardType P.depth t = false) (h : eqA P 12 t (.agg xs) (.agg ys) = some b) (W : World) :
    (binOp .eql t (.agg xs) (.agg ys)).run P W = .ok (.bool b) W ∧ (binOp .neq t (.agg xs) (.agg ys)).run P W = .ok (.bool (!b)) W ∧ ∀ op x y, (eqGuard op t x y (.agg xs) (.agg ys)).run P W = .ok () W := by
  have h1 : (Op.equal t (.agg xs) (.agg ys)).run P W = .ok b W := by
    unfold Op.equal
    exact eqA_run 12 h _ (by decide) W
  have e1 : binOp .eql t (.agg xs) (.agg ys) = (do pure (.bool (← Op.equal t (.agg xs) (.agg ys)))) := rfl
  have e2 : binOp .neq t (.agg xs) (.agg ys) = (do pure (.bool (!(← Op.equal t (.agg xs) (.agg ys))))) := rfl
  refine ⟨?_, ?_, fun op x y => ?_⟩
  · rw [e1]; simp only [Sem.run_bind, h1, Result.andThen_ok, Sem.run_pure]
  · rw [e2]; simp only [Sem.run_bind, h1, Result.andThen_ok, Sem.run_pure]
  · have hp : ∀ w : World, (program : Sem Program).run P w = .ok P w := fun _ => rfl
    cases op with
    | eql => simp [eqGuard, hp, hg]
    | neq => simp [eqGuard, hp, hg]
    | _ => simp [eqGuard]
end
end Go.Proofs.Ytfjlaplhglfcaaa.Ex
