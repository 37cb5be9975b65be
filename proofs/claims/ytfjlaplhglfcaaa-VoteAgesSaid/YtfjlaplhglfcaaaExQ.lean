/- Code: what a run tells is so. The regions whose order is drawn are taken as given here. -/
import Derived.Test.YtfjlaplhglfcaaaExP2
import Derived.LoopN
namespace Go.Proofs.Ytfjlaplhglfcaaa.Ex
open Go
set_option linter.unusedVariables false
set_option linter.unusedSimpArgs false
section
variable {P : Program} {fr : Fr} {hp : Hp}
/-- Regions whose order is drawn may be run in the order of the text, where that is calm. -/
def Drawn (P : Program) (call : CallF) : Prop := ∀ (id m : Nat) (ops : Array Oper) (fr : Fr) (hp : Hp),
  calmS ops = true → Sat ((opsA P call ops ops.toList fr hp [] []).bind fun r => (chk (calm ops r.2.2.2)).bind fun _ => ret (⟨.normal, r.1, r.2.1, r.2.2.1⟩ : Out)) (CodeSpec P m (.region id ops true) fr hp)
theorem iter_sat {c : Code} {m : Nat} {f : Fr → Hp → M Out} (hf : ∀ fr hp, Sat (f fr hp) (CodeSpec P m c fr hp)) : ∀ (n : Nat) (fr : Fr) (hp : Hp) (wr : List Nat),
    Sat (iter f n fr hp wr) fun o => ∀ w0 ν0 ν wx (a : Act) w (Q : Exit → Act → World → Prop), Inv P w0 ν0 m ν hp (wr ++ wx) w → FrRel ν fr a.tmps →
      (∀ ν' (a' : Act) w', Inv P w0 ν0 m ν' o.hp (o.wr ++ wx) w' → FrRel ν' o.fr a'.tmps → a'.defers = a.defers → Q o.ex.of a' w') → Code.rounds P c Q n a w
  | 0, fr, hp, wr => Sat.stop
  | n + 1, fr, hp, wr => by
    unfold iter
    refine Sat.bind (hf fr hp) fun r hr => ?_
    split
    · rename_i he
      refine (iter_sat hf n _ _ _).mono fun o ho => ?_
      intro w0 ν0 ν wx a w Q hi hfr hQ
      rw [rounds_succ]
      refine hr w0 ν0 ν (wr ++ wx) a w _ hi hfr fun ν' a' w' k1 k2 k3 => ?_
      rw [he]
      rw [← List.append_assoc] at k1
      exact ho w0 ν0 ν' wx a' w' Q k1 k2 fun ν2 a2 w2 q1 q2 q3 => hQ ν2 a2 w2 q1 q2 (q3.trans k3)
    · rename_i he
      refine Sat.ret _ fun w0 ν0 ν wx a w Q hi hfr hQ => ?_
      rw [rounds_succ]
      refine hr w0 ν0 ν (wr ++ wx) a w _ hi hfr fun ν' a' w' k1 k2 k3 => ?_
      rw [← List.append_assoc] at k1
      have := hQ ν' a' w' k1 k2 k3
      revert this
      cases hx : r.ex with
      | normal => exact absurd hx he
      | exit j => exact id
      | ret => exact id
theorem run_sat {call : CallF} (hN : Named P) (hcall : Sound P call) (hD : Drawn P call) {m n : Nat} : ∀ (c : Code) (fr : Fr) (hp : Hp), calmC c = true → Sat (run P call m n c fr hp) (CodeSpec P m c fr hp)
  | .skip, fr, hp, _ => Sat.ret _ fun w0 ν0 ν wx a w Q hi hfr hQ => wp_skip (hQ ν a w hi hfr rfl)
  | .label _, fr, hp, _ => Sat.ret _ fun w0 ν0 ν wx a w Q hi hfr hQ => wp_label (hQ ν a w hi hfr rfl)
  | .region id ops false, fr, hp, _ => by
    unfold run
    refine Sat.bind (ops_sat hN hcall ops.toList fr hp [] []) fun r hr => Sat.bind_chk fun _ => Sat.ret _ ?_
    intro w0 ν0 ν wx a w Q hi hfr hQ
    exact wp_region_list (hr w0 ν0 m ν wx a w Q hi hfr fun ν' a' w' k1 k2 k3 => hQ ν' a' w' k1 k2 k3)
  | .region id ops true, fr, hp, hc => by
    unfold run
    exact hD id m ops fr hp (by simpa [calmC] using hc)
  | .seq x y, fr, hp, hc => by
    have hc : calmC x = true ∧ calmC y = true := by simpa [calmC] using hc
    unfold run
    refine Sat.bind (run_sat hN hcall hD x fr hp hc.1) fun r hr => ?_
    split
    · rename_i he
      refine Sat.map ((run_sat hN hcall hD y _ _ hc.2).mono fun q hq => ?_)
      intro w0 ν0 ν wx a w Q hi hfr hQ
      refine wp_seq (hr w0 ν0 ν wx a w _ hi hfr fun ν' a' w' k1 k2 k3 => ?_)
      rw [he]
      refine hq w0 ν0 ν' (r.wr ++ wx) a' w' Q k1 k2 fun ν2 a2 w2 q1 q2 q3 => hQ ν2 a2 w2 ?_ q2 (q3.trans k3)
      rw [← List.append_assoc] at q1
      exact q1
    · rename_i he
      refine Sat.ret _ ?_
      intro w0 ν0 ν wx a w Q hi hfr hQ
      refine wp_seq (hr w0 ν0 ν wx a w _ hi hfr fun ν' a' w' k1 k2 k3 => ?_)
      have := hQ ν' a' w' k1 k2 k3
      revert this
      cases hx : r.ex with
      | normal => exact absurd hx he
      | exit j => exact id
      | ret => exact id
  | .cond c x y, fr, hp, hc => by
    have hc : calmC x = true ∧ calmC y = true := by simpa [calmC] using hc
    have key : Sat ((lift (val fr c)).bind fun v => match v with
      | .bool b => (ask b).bind fun b => if b = true then run P call m n x fr hp else run P call m n y fr hp
      | _ => stop) (CodeSpec P m (.cond c x y) fr hp) := by
      refine Sat.bind_lift fun v hv => ?_
      split
      · rename_i b
        refine Sat.bind_ask ?_
        split
        · rename_i hb
          subst hb
          refine (run_sat hN hcall hD x fr hp hc.1).mono fun r hr => ?_
          intro w0 ν0 ν wx a w Q hi hfr hQ
          exact wp_cond_true (val_eval hfr hv) (hr w0 ν0 ν wx a w Q hi hfr hQ)
        · rename_i hb
          have hb : b = false := by simpa using hb
          subst hb
          refine (run_sat hN hcall hD y fr hp hc.2).mono fun r hr => ?_
          intro w0 ν0 ν wx a w Q hi hfr hQ
          exact wp_cond_false (val_eval hfr hv) (hr w0 ν0 ν wx a w Q hi hfr hQ)
      · exact Sat.stop
    unfold run
    intro o r he hg
    dsimp only at he
    split at he
    · rename_i keep q o'
      cases ht : tidy P m keep ⟨.normal, fr, hp, []⟩ with
      | none => rw [ht] at he; cases he
      | some t =>
        rw [ht] at he
        cases he
        have hs : CodeSpec P m (.cond c x y) t.fr t.hp q := hg.2 _ (List.mem_singleton.2 rfl)
        exact fun w0 ν0 ν wr a w Q hi hfr hQ => let ⟨ν', h1, h2⟩ := (tidy_inv ht).2.2 hi hfr; hs w0 ν0 ν' wr a w Q h1 h2 hQ
    · exact key _ _ he hg
  | .block id c, fr, hp, hc => by
    have hc : calmC c = true := by simpa [calmC] using hc
    unfold run
    refine Sat.map ((run_sat hN hcall hD c fr hp hc).mono fun r hr => ?_)
    intro w0 ν0 ν wx a w Q hi hfr hQ
    refine wp_block (hr w0 ν0 ν wx a w _ hi hfr fun ν' a' w' k1 k2 k3 => ?_)
    cases hx : r.ex with
    | normal =>
      simp only [hx] at hQ
      exact hQ ν' a' w' k1 k2 k3
    | ret =>
      simp only [hx] at hQ
      exact hQ ν' a' w' k1 k2 k3
    | exit j =>
      simp only [hx] at hQ
      show if j = id then Q .normal a' w' else Q (.exit j) a' w'
      split
      · rename_i hj
        rw [if_pos hj] at hQ
        exact hQ ν' a' w' k1 k2 k3
      · rename_i hj
        rw [if_neg hj] at hQ
        exact hQ ν' a' w' k1 k2 k3
  | .loop c, fr, hp, hc => by
    have hc : calmC c = true := by simpa [calmC] using hc
    have key : Sat (iter (run P call m n c) n fr hp []) (CodeSpec P m (.loop c) fr hp) :=
      (iter_sat (fun fr hp => run_sat hN hcall hD c fr hp hc) n fr hp []).mono fun r hr w0 ν0 ν wx a w Q hi hfr hQ => wp_loop_rounds n (hr w0 ν0 ν wx a w Q hi hfr hQ)
    unfold run
    intro o r he hg
    dsimp only at he
    split at he
    · rename_i keep q o'
      cases ht : tidy P m keep ⟨.normal, fr, hp, []⟩ with
      | none => rw [ht] at he; cases he
      | some t =>
        rw [ht] at he
        cases he
        have hs : CodeSpec P m (.loop c) t.fr t.hp q := hg.2 _ (List.mem_singleton.2 rfl)
        exact fun w0 ν0 ν wr a w Q hi hfr hQ => let ⟨ν', h1, h2⟩ := (tidy_inv ht).2.2 hi hfr; hs w0 ν0 ν' wr a w Q h1 h2 hQ
    · cases he
    · exact key _ _ he hg
    · exact key _ _ he hg
  | .exit id, fr, hp, _ => Sat.ret _ fun w0 ν0 ν wx a w Q hi hfr hQ => wp_exit (hQ ν a w hi hfr rfl)
  | .ret, fr, hp, _ => Sat.ret _ fun w0 ν0 ν wx a w Q hi hfr hQ => wp_ret (hQ ν a w hi hfr rfl)
  | .rangeFunc _ _ _ _, fr, hp, _ => Sat.stop
  | .scope _, fr, hp, _ => Sat.stop
  | .goto _, fr, hp, _ => Sat.stop
  | .refuse _, fr, hp, _ => Sat.stop
end
end Go.Proofs.Ytfjlaplhglfcaaa.Ex
