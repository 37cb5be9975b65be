/- A frame that is read is written as it was: for every frame. -/
import Derived.Test.YteleiocdjcdgcaaXx9
import Derived.Test.YteleiocdjcdgcaaXPSame
import Derived.Test.YteleiocdjcdgcaaXHKit
namespace Go.Proofs.Yteleiocdjcdgcaa.X
open Go.RowKit Go.Proofs.YteleiocdjcdgcaaW.PrintWords Go.Proofs.YteleiocdjcdgcaaW.PrintLast
set_option linter.unusedVariables false
theorem MsgsThere (a0_0 : Int) (a0_1 : Int) (a0_2 : ByteArray) (w0_0 : (Lit.int .i64 a0_0).wf = true) (w0_1 : (Lit.int .i64 a0_1).wf = true) (w0_2 : a0_2.size ≤ 140737488351232) : ∃ k, windhoverlaw05_MsgsThere.f k a0_0 a0_1 a0_2 = some true := by
  refine Ev.rounds ?_
  unfold windhoverlaw05_MsgsThere.f
  refine Ev.bind (dec_ev a0_0 a0_1 a0_2) ?_
  have hsq := HKit.wf_i64 w0_0
  by_cases hid : 1 ≤ a0_1 ∧ a0_1 ≤ 11
  · rcases hd : decL (widthsTab a0_1) (B a0_2) with _ | vs
    · have e : decS a0_1 a0_2 = (0, [], 3) := by unfold decS; rw [if_pos hid, hd]; rfl
      rw [e]
      refine Ev.bind awake_ev ?_
      exact Ev.now _
    · have e : decS a0_1 a0_2 = (a0_1, vs, 0) := by unfold decS; rw [if_pos hid, hd]; rfl
      rw [e]
      simp only [if_true]
      obtain ⟨hl, he⟩ := enc_dec _ _ _ (widths_W5 a0_1).1 (B_range a0_2) hd
      have hnz := tab_some a0_1 hid.1 hid.2
      refine Ev.bind (enc_ev a0_0 a0_1 vs (by omega)) ?_
      have hse : a0_0 < 0 ∨ a0_0 > 255 → encS a0_0 a0_1 vs = (0, 0, ⟨#[]⟩, 5) := by
        intro h
        unfold encS
        rw [if_neg hnz, if_neg (by omega), if_pos h]
      by_cases h1 : a0_0 < 0
      · rw [hse (.inl h1)]
        simp only [h1, if_true]
        refine Ev.step (f := fun k => (windhoverlaw05_awake.f k).bind fun t250 => (if t250 = true then (some ((5 : Int) == 5)) else (some false))) (fun k => rfl) (Ev.bind awake_ev (Ev.now _))
      · simp only [h1, if_false]
        by_cases h2 : a0_0 > 255
        · rw [hse (.inr h2), decide_eq_true h2]
          refine Ev.step (f := fun k => (windhoverlaw05_awake.f k).bind fun t250 => (if t250 = true then (some ((5 : Int) == 5)) else (some false))) (fun k => rfl) (Ev.bind awake_ev (Ev.now _))
        · rw [decide_eq_false h2]
          have hw : wrap64 a0_1 = a0_1 := by unfold wrap64; omega
          have hst : strOfNums (B a0_2) = a0_2 := B_inj (B_nums _ (B_range a0_2))
          have e2 : encS a0_0 a0_1 vs = (a0_0, a0_1, a0_2, 0) := by
            unfold encS
            rw [if_neg hnz, if_neg (by omega), if_neg (by omega), he]
            show (a0_0, wrap64 a0_1, strOfNums ([] ++ B a0_2), (0 : Int)) = _
            rw [hw, List.nil_append, hst]
          rw [e2]
          refine Ev.step (f := fun k => (windhoverlaw05_awake.f k).bind fun t251 => (if t251 = true then (some (a0_0 == a0_0 && (a0_1 == a0_1 && (a0_2.toList == a0_2.toList)))) else (some false))) (fun k => rfl) (Ev.bind awake_ev ?_)
          simp only [beq_self_eq_true, Bool.and_self, if_true]
          exact Ev.now _
  · have e : decS a0_1 a0_2 = (0, [], 6) := by unfold decS; rw [if_neg hid]
    rw [e]
    refine Ev.bind awake_ev ?_
    exact Ev.now _
end Go.Proofs.Yteleiocdjcdgcaa.X
