/- A message that is written is read as the same: for every message and every number of a frame. -/
import Derived.Test.YteleiocdjcdgcaaXx8
import Derived.Test.YteleiocdjcdgcaaXPSame
import Derived.Test.YteleiocdjcdgcaaXHKit
namespace Go.Proofs.Yteleiocdjcdgcaa.X
open Go.RowKit Go.Proofs.YteleiocdjcdgcaaW.PrintWords Go.Proofs.YteleiocdjcdgcaaW.PrintLast
set_option linter.unusedVariables false
theorem MsgsBack (a0 : Int) (a1_0 : Int) (l1_1 : List Int) (w0 : (Lit.int .i64 a0).wf = true) (w1_0 : (Lit.int .u8 a1_0).wf = true) (w1_1 : l1_1.length * 8 ≤ 140737488351232 ∧ ∀ a ∈ l1_1, (Lit.int .i64 a).wf = true) : ∃ k, windhoverlaw05_MsgsBack.f k a0 a1_0 l1_1 = some true := by
  have hk : 0 ≤ a1_0 ∧ a1_0 ≤ 255 := by
    exact HKit.wf_u8 w1_0
  have hlent : windhoverkeep_Lent.f l1_1 = some l1_1 := by unfold windhoverkeep_Lent.f; rw [if_pos w1_1.1]
  refine Ev.rounds ?_
  unfold windhoverlaw05_MsgsBack.f
  rw [hlent]
  simp only [Option.bind_some]
  refine Ev.bind (enc_ev a0 a1_0 l1_1 hk) ?_
  by_cases h : (encS a0 a1_0 l1_1).2.2.2 = 0
  · obtain ⟨bs, he, hl, h0, hs0, hs1, e⟩ := encS_ok _ _ _ h
    rw [e]
    simp only [if_true]
    refine Ev.bind (dec_ev _ _ _) ?_
    rw [dec_of_enc a0 a1_0 l1_1 bs he hl h0]
    refine Ev.bind awake_ev ?_
    simp only [if_true]
    refine Ev.bind (same_ev _ _ _ _ (by omega)) ?_
    simp only [and_self, decide_true, if_true]
    refine Ev.step (f := fun _ => some _) (fun k => rfl) ?_
    have hlen := enc_len _ _ _ he
    have h7 := (widths_W5 a1_0).2
    rw [strOfNums_size, decide_eq_true (by omega)]
    exact Ev.now _
  · obtain ⟨e1, e2, e3⟩ := encS_err _ _ _ h
    simp only [h, if_false]
    refine Ev.bind awake_ev ?_
    simp only [if_true]
    refine Ev.step (f := fun _ => some _) (fun k => rfl) ?_
    rw [e1, e2, e3, show ((0 : Int) == 0 && ((0 : Int) == 0 && ((⟨#[]⟩ : ByteArray).toList == ([] : List UInt8)))) = true by decide +kernel]
    exact Ev.now _
end Go.Proofs.Yteleiocdjcdgcaa.X
