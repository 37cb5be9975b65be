/- The frame of any message is the one that the reference makes, or refused with the same error; what is handed in stays. -/
import Derived.Test.YteleiocdjcdgcaaXx7
import Derived.Test.YteleiocdjcdgcaaXPSame
import Derived.Test.YteleiocdjcdgcaaXHKit
namespace Go.Proofs.Yteleiocdjcdgcaa.X
open Go.RowKit Go.Proofs.YteleiocdjcdgcaaW.PrintWords Go.Proofs.YteleiocdjcdgcaaW.PrintLast
set_option linter.unusedVariables false
theorem MsgsEncodes (a0 : Int) (a1_0 : Int) (l1_1 : List Int) (w0 : (Lit.int .i64 a0).wf = true) (w1_0 : (Lit.int .u8 a1_0).wf = true) (w1_1 : l1_1.length * 8 ≤ 140737488351232 ∧ ∀ a ∈ l1_1, (Lit.int .i64 a).wf = true) : ∃ k, windhoverlaw05_MsgsEncodes.f k a0 a1_0 l1_1 = some true := by
  have hk := HKit.wf_u8 w1_0
  have hlent : windhoverkeep_Lent.f l1_1 = some l1_1 := by unfold windhoverkeep_Lent.f; rw [if_pos w1_1.1]
  refine Ev.rounds ?_
  unfold windhoverlaw05_MsgsEncodes.f
  rw [hlent]
  simp only [Option.bind_some]
  refine Ev.bind (enc_ev a0 a1_0 l1_1 hk) ?_
  refine Ev.bind (refEnc_ev a0 a1_0 l1_1) ?_
  refine Ev.bind awake_ev ?_
  simp only [beq_self_eq_true, Bool.and_self, if_true]
  refine Ev.bind (a := true) ?_ (Ev.now _)
  refine Ev.congr (f := fun k => windhoverref00_SameInts.f k l1_1 l1_1) (fun k => ?_) ?_
  · unfold windhoverkeep_Kept.f
    rw [if_pos ⟨rfl, w1_1.1⟩]
  · have := sameInts_ev l1_1 l1_1 (by omega)
    rwa [decide_eq_true rfl] at this
end Go.Proofs.Yteleiocdjcdgcaa.X
