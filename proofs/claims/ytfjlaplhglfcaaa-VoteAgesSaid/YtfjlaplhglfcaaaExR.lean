/- Whole functions. -/
import Derived.Test.YtfjlaplhglfcaaaExQ
namespace Go.Proofs.Ytfjlaplhglfcaaa.Ex
open Go
set_option linter.unusedVariables false
set_option linter.unusedSimpArgs false
section
variable {P : Program} {fr : Fr} {hp : Hp}
theorem loadA_sat {t : TypeId} {v : Value} : Sat (loadA P hp t v) fun u => ∀ ν (w : World) v', Rep P ν hp w → VR ν v v' → ∃ ad u', v' = .pointer (some ad) ∧ (loadVar t ad).run P w = .ok u' w ∧ VR ν u u' := by
  unfold loadA
  split
  · rename_i b off
    refine Sat.bind_lift fun cs hc => Sat.bind_lift fun g hg => ?_
    cases g with
    | true =>
      rw [if_pos rfl]
      refine Sat.bind_lift fun n hn => Sat.bind_chk fun hle => Sat.ret _ fun ν w v' hr hv => ?_
      obtain ⟨N, h1, rfl⟩ := VR.ptr hv
      obtain ⟨N', h1', h2, _⟩ := load_ok (o := off) (hr.blk b) hc hg
      rw [h1] at h1'
      cases h1'
      obtain ⟨u', h3, h4⟩ := h2 rfl n hn (by simpa using hle)
      exact ⟨_, u', rfl, h3, h4⟩
    | false =>
      rw [if_neg Bool.false_ne_true]
      refine Sat.bind_chk fun hlt => Sat.asT.mono fun u hu ν w v' hr hv => ?_
      subst hu
      obtain ⟨N, h1, rfl⟩ := VR.ptr hv
      obtain ⟨N', h1', _, h2⟩ := load_ok (o := off) (hr.blk b) hc hg
      rw [h1] at h1'
      cases h1'
      obtain ⟨u', h3, h4⟩ := h2 rfl (by simpa using hlt)
      exact ⟨_, u', rfl, h3, h4⟩
  · exact Sat.stop
def resOf (tmps : Array Value) : ResultVar → Sem Value
  | .tmp t => pure (tmps.getD t undef)
  | .cell a t => do loadVar t (← asAddr (tmps.getD a undef))
theorem resA_sat : ∀ (rs : List ResultVar), Sat (resA P fr hp rs) fun vs => ∀ ν (tmps : Array Value) (w : World), Rep P ν hp w → FrRel ν fr tmps → ∃ vs', (rs.mapM (resOf tmps)).run P w = .ok vs' w ∧ L2 (VR ν) vs vs'
  | [] => Sat.ret _ fun ν tmps w _ _ => ⟨[], rfl, .nil⟩
  | .tmp t :: r => by
    unfold resA
    refine Sat.bind_lift fun v hv => Sat.map ((resA_sat r).mono fun vs hvs ν tmps w hr hf => ?_)
    obtain ⟨vs', h1, h2⟩ := hvs ν tmps w hr hf
    obtain ⟨v', h3, h4⟩ := hf.2 t v hv
    refine ⟨v' :: vs', ?_, .cons h4 h2⟩
    have : tmps.getD t undef = v' := by rw [Array.getD_eq_getD_getElem?, h3]; rfl
    simp only [List.mapM_cons, resOf, Sem.run_bind, Sem.run_pure, Result.andThen_ok, this, h1]
  | .cell x t :: r => by
    unfold resA
    refine Sat.bind_lift fun av hav => Sat.bind loadA_sat fun v hv => Sat.map ((resA_sat r).mono fun vs hvs ν tmps w hr hf => ?_)
    obtain ⟨vs', h1, h2⟩ := hvs ν tmps w hr hf
    obtain ⟨a', h3, h4⟩ := hf.2 x av hav
    obtain ⟨ad, u', rfl, h5, h6⟩ := hv ν w a' hr h4
    refine ⟨u' :: vs', ?_, .cons h6 h2⟩
    have : tmps.getD x undef = .pointer (some ad) := by rw [Array.getD_eq_getD_getElem?, h3]; rfl
    simp only [List.mapM_cons, resOf, Sem.run_bind, Sem.run_pure, Result.andThen_ok, this, asAddr, h5, h1]
theorem results_run {fn : Func} {tmps : Array Value} {w : World} {vs' : List Value} (h : (fn.results.toList.mapM (resOf tmps)).run P w = .ok vs' w) : (results fn tmps).run P w = .ok (tie vs') w := by
  change Sem.run P (do let vs ← fn.results.mapM (resOf tmps); pure (if h : vs.size = 1 then vs[0] else .tuple vs)) w = _
  rw [Array.mapM_eq_mapM_toList]
  simp only [Sem.run_bind, Sem.run_map, h, Result.andThen_ok, Sem.run_pure]
  congr 1
  match vs' with
  | [] => rfl
  | [v] => rfl
  | v :: u :: r => simp [tie]
theorem tie_VR {ν : Nu} {vs vs' : List Value} (h : L2 (VR ν) vs vs') (hl : vs.all lvlC = true) : VR ν (tie vs) (tie vs') := by
  have all : ∀ {vs vs' : List Value}, L2 (VR ν) vs vs' → vs.all lvlC = true → L2 (VRC ν) vs vs' := by
    intro vs vs' h
    induction h with
    | nil => intro _; exact .nil
    | cons a _ ih => intro hl; simp only [List.all_cons, Bool.and_eq_true] at hl; exact .cons (a.toC hl.1) (ih hl.2)
  match vs, vs', h with
  | [], _, .nil => exact ⟨#[], rfl, .nil⟩
  | [v], _, .cons a .nil => exact a
  | v :: u :: r, _, .cons a (.cons b c) => exact ⟨_, rfl, by simpa using all (.cons a (.cons b c)) hl⟩
theorem exec_sat (hN : Named P) (hC : Calm P) (hD : ∀ call, Sound P call → Drawn P call) : ∀ (n : Nat) (g : FuncId) (args : List Value) (hp : Hp), Sat (exec P n g args hp) (CallSpec P g args hp)
  | 0, g, args, hp => Sat.stop
  | n + 1, g, args, hp => by
    have told : ∀ g args hp, Sat (toldA P (exec P n) g args hp) (CallSpec P g args hp) := by
      intro g args hp o r he hg
      unfold toldA at he
      split at he
      · cases he
        exact hg.2 _ (by simp)
      · cases he
      · exact exec_sat hN hC hD n g args hp _ _ he hg
      · exact exec_sat hN hC hD n g args hp _ _ he hg
    have hS : Sound P (callA P (toldA P (exec P n))) := fun F g args hp hF => call_sat (fun args hp => told g args hp) hF
    unfold exec
    refine Sat.bind_lift fun fn hfn => Sat.bind_lift fun c hc => Sat.bind_chk fun hle => Sat.bind (run_sat hN hS (hD _ hS) c _ hp (hC _ _ _ hfn hc)) fun r hr => ?_
    have hle' : args.length ≤ fn.ntmps := of_decide_eq_true hle
    have key : (r.ex = .normal ∨ r.ex = .ret) → Sat ((resA P r.fr r.hp fn.results.toList).bind fun vs => (chk (vs.all lvlC)).bind fun _ => lift (outA P hp.length (tie vs) r.hp r.wr)) (CallSpec P g args hp) := by
      intro hex
      refine Sat.bind (resA_sat _) fun vs hvs => Sat.bind_chk fun hlc => Sat.lift fun q hq => ?_
      unfold outA at hq
      intro ν w args' hargs hrep
      dsimp only at hq
      revert hq
      have hnd : (reach P r.hp deep (List.range hp.length ++ idsV (tie vs)) []).Nodup := reach_nodup _ _ _ (by simp)
      revert hnd
      generalize reach P r.hp deep (List.range hp.length ++ idsV (tie vs)) [] = ids
      intro hnd hq
      cases hv : ren (posIn ids) (tie vs) with
      | none => rw [hv] at hq; cases hq
      | some v2 =>
        cases hs : mapL (fun b => renB P (posIn ids) (r.hp.getD b .dead)) ids with
        | none => rw [hv, hs] at hq; cases hq
        | some hp2 =>
          rw [hv, hs] at hq
          simp only [Option.bind_some] at hq
          split at hq
          · rename_i htk
            cases hq
            have hlen := hargs.len
            have hi0 : Inv P w ν hp.length ν hp ([] ++ []) w := ⟨hrep, Nat.le_refl _, fun _ _ => rfl, rfl, rfl, rfl, Nat.le_refl _, fun _ _ _ => rfl, fun id N hid _ hN => by rw [hrep.dom id hid] at hN; cases hN⟩
            refine calls_of_wp hfn hc (hr w ν ν [] _ w _ hi0 ?_ fun ν' a' w' k1 k2 k3 => ?_)
            · refine ⟨by unfold frame0; rw [frArgs_n]; simp [Fr.empty, ← hlen]; omega, fun t v hv => ?_⟩
              unfold frame0 at hv
              rcases frArgs_get _ _ _ _ _ hv with ⟨_, h0⟩ | h0
              · rw [Nat.sub_zero] at h0
                obtain ⟨u', h1, h2⟩ := hargs.get t v h0
                refine ⟨u', ?_, h2⟩
                have ht := (List.getElem?_eq_some_iff.1 h1).1
                rw [Array.getElem?_append_left (by simpa using ht)]
                simpa using h1
              · rw [Fr.empty_get] at h0
                cases h0
            · rw [List.append_nil] at k1
              obtain ⟨vs', h1, h2⟩ := hvs ν' a'.tmps w' k1.rep k2
              obtain ⟨hk, hi⟩ := Inv.weaken hnd htk hs k1
              have hfin : a'.defers = [] ∧ ∃ v, (results fn a'.tmps).run P w' = .ok v w' ∧ ∃ v' ν2, Ending.returned v = .returned v' ∧ VR ν2 v2 v' ∧ Inv P w ν hp.length ν2 hp2 (r.wr.filter (· < hp.length)) w' :=
                ⟨k3, tie vs', results_run h1, tie vs', _, rfl, ren_ok hk hv (tie_VR h2 hlc), hi⟩
              rcases hex with e | e
              · rw [e]; exact hfin
              · rw [e]; exact hfin
          · cases hq
    split
    · exact Sat.stop
    · rename_i he
      refine key ?_
      cases hx : r.ex with
      | normal => exact .inl rfl
      | ret => exact .inr rfl
      | exit j => exact absurd hx (he j)
end
end Go.Proofs.Ytfjlaplhglfcaaa.Ex
