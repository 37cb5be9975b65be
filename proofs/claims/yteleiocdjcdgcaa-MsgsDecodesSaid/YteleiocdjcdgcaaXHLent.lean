/- The contract of windhoverkeep.Lent: a list in memory of its own, with four marks in the room behind it. The list's size is bounded as a slice that is handed in is. -/
import Derived.Test.YteleiocdjcdgcaaXx0
import Derived.Test.YteleiocdjcdgcaaXHKit
namespace Go.Proofs.Yteleiocdjcdgcaa.X
open Go.RowKit Go.Proofs.YteleiocdjcdgcaaW.PrintWords Go.Proofs.YteleiocdjcdgcaaW.PrintLast Go.Proofs.YteleiocdjcdgcaaW.PrintMore Go.Proofs.Yteleiocdjcdgcaa.HKit
set_option linter.unusedVariables false
set_option linter.unusedSimpArgs false
theorem marks_of {l : List Int} {i : Nat} (hi : i ≤ 4) (h : ¬ ((i : Int) < 4)) : l ++ List.replicate i (-7770777) = l ++ marks := by
  obtain rfl : i = 4 := by omega
  rfl
set_option maxHeartbeats 4000000 in
set_option maxRecDepth 100000 in
theorem lent_room (A0 : Option Addr) (c0 : Nat) (l0 : List Int) (w : World) (hr0 : Kd.C (Kd.int .i64) w A0 l0.length l0) (hc0 : l0.length ≤ c0) (hl : l0.length * 8 ≤ 140737488351232) :
    Calls Try.prog 8 #[.slice A0 l0.length c0] w fun e w' => ∃ v0_ : Value, e = .returned (v0_) ∧ IsLent w' w.heap.size v0_ l0 ∧ Below w.heap.size w w' := by
  have HR0 := Aside0.mk hr0
  have HC0 := Aside0.mk hc0
  have HL := Aside0.mk hl
  clear hr0 hc0
  have hl' : l0.length ≤ 17592186043904 := by omega
  clear hl
  have HB := Aside0.mk (Below.refl w.heap.size w)
  have hw4 : wrap64 ((l0.length : Int) + 4) = ((l0.length + 4 : Nat) : Int) := by unfold wrap64; omega
  go_enter Try.func8, Try.ntmps8
  go_wp2_with (first | ((with_reducible refine gate_dst (N := 8) rfl ?_); refine R_make0 (Kd.int .i64) (w0 := w) w.heap.size 3 rfl (N := 8) rfl 23 _ _ rfl (l0.length + 4) rfl ?mY Try.underlying23 (.int .i64 0) 8 info3 (by omega) (fun _ => True) trivial ?mL (Below.refl _ _) (Nat.le_refl _) ?_; (case mY => first | (go_simp; done) | (simp [hw4]; done) | (simp; done)); (case mL => omega); intro v102 w4 ho5 hb hg_ hnew_; clear hg_ hnew_; have HO103 := Aside0.mk ho5; clear HB; have HB := Aside0.mk hb; clear hb ho5) | ((with_reducible refine gate_builtin (b := .append) (xs := #[.tmp 9, .tmp 10]) rfl ?_); at_builtin; refine Kd.R_append_rows (Kd.int .i64) (w0 := w) w.heap.size rfl (.tmp 9) (.tmp 10) 23 3 (.int .i64 0) 8 rfl Try.underlying23 info3 rfl (by decide) (by omega) v102 [] l0 _ _ _ (fun _ => True) (fun _ => False) rfl rfl ?aO ?aR (fun _ _ h => h) (fun _ h => h.elim) ?aF ?aB ?aS ?aL ?_; (case aR => repeat (first | exact (Kd.C_below HR0.out HB.out) | (with_reducible refine Kd.C_alloc ?_ _) | (with_reducible refine Kd.C_drewN ?_ _) | (with_reducible refine Kd.C_drew ?_))); (case aB => exact HB.out); (case aF => exact (fun _ _ => trivial)); (case aO => exact HO103.out); (case aS => exact (below_size HB.out)); (case aL => simp; omega); intro v105 w6 ho hb hg hat; have n0_ := Aside0.mk (hb); have n1_ := Aside0.mk (show Kd.R (Kd.int .i64) 3 w6 w.heap.size (fun _ => True) v105 l0 from by simpa using ho); clear HB; clear HO103; have HB := n0_; have HO106 := n1_; clear n0_ n1_; clear ho hb hg hat))
  go_loopw [3, 4] (fun v3 v4 w' => ∃ i : Nat, i ≤ 4 ∧ v4 = .int .i64 i ∧ Aside0 (Kd.R (Kd.int .i64) 3 w' w.heap.size (fun _ => True) v3 (l0 ++ List.replicate i (-7770777))) ∧ Aside0 (Below w.heap.size w w')) (fun _ i _ => 4 - (intOf i).toNat)
  case atStart => exact ⟨0, by omega, rfl, ⟨by simpa using HO106.out⟩, ⟨HB.out⟩⟩
  case round =>
    clear HO106 HB
    obtain ⟨i, hi, rfl, HO_3, HB⟩ := hrel
    have hw1 : wrap64 ((i : Int) + 1) = ((i + 1 : Nat) : Int) := by unfold wrap64; omega
    by_cases c7 : (i : Int) < 4
    · have c7b0 : decide ((i : Int) < 4) = true := decide_eq_true c7
      have hi4 : i < 4 := by omega
      clear c7
      go_wp2_with (first | ((with_reducible refine gate_builtin (b := .append) (xs := #[.tmp 16, .tmp 17]) rfl ?_); at_builtin; refine Kd.R_append (Kd.int .i64) (w0 := w) w.heap.size rfl (.tmp 16) (.tmp 17) 23 3 (.int .i64 0) 8 rfl Try.underlying23 info3 rfl (by decide) (by omega) u3 (l0 ++ List.replicate i (-7770777)) (-7770777) [.int .i64 (-7770777)] (fun _ => True) (fun _ => False) rfl rfl ?aP (fun _ hk => hk.elim) ?aF ?aO ?aB ?aS ?aL ?_; (case aP => exact rfl); (case aO => exact HO_3.out); (case aB => exact HB.out); (case aF => exact (fun _ _ => trivial)); (case aS => exact below_size HB.out); (case aL => simp; omega); intro v108 w9 ho hb hg hat; have n0_ := Aside0.mk (hb); have n1_ := Aside0.mk (show Kd.R (Kd.int .i64) 3 w9 w.heap.size (fun _ => True) v108 (l0 ++ List.replicate (i + 1) (-7770777)) from by rw [List.replicate_succ', ← List.append_assoc]; exact ho); clear HB; clear HO_3; have HB := n0_; have HO109 := n1_; clear n0_ n1_; clear ho hb hg hat))
      go_roundw
      case rel => exact ⟨i + 1, by omega, by first | rfl | (rw [hw1]; done) | (simp; done) | go_num, ⟨HO109.out⟩, ⟨HB.out⟩⟩
      case measure => simp [intOf]; omega
    · have c7b0 : decide ((i : Int) < 4) = false := decide_eq_false c7
      have HM := Aside0.mk (marks_of (l := l0) hi c7)
      clear c7
      have HO := Aside0.mk (show Kd.R (Kd.int .i64) 3 wr w.heap.size (fun _ => True) u3 (l0 ++ marks) from by rw [← HM.out]; exact HO_3.out)
      obtain ⟨Ao, co, eo, hle, hrd⟩ := Kd.R_reads HO.out
      have hl4 : (l0 ++ marks).length = l0.length + 4 := by simp [marks]
      rw [hl4] at eo hle
      clear hl4
      subst eo
      obtain ⟨i0, hi0, _, hsz, _⟩ := info_parts info3
      have hcut := cut_to (P := Try.prog) 23 3 .i64 Try.underlying23 hi0 Ao (l0.length + 4) co (l0.length : Int) (by omega) (by omega) hle
      have q : (0 : Int) ≤ (l0.length : Int) := by omega
      clear hi0 hsz HO_3 hrd HM
      have HO2 := Aside0.mk (show IsLent wr w.heap.size (.slice Ao l0.length co) l0 from ⟨Ao, co, rfl, hle, HO.out⟩)
      clear HO hle
      simp only [Int.toNat_natCast] at hcut
      go_wp2
      go_ret
      exact ⟨_, rfl, HO2.out, HB.out⟩
def windhoverkeep_Lent.f (l0 : List Int) : Option (List Int) := if l0.length * 8 ≤ 140737488351232 then some l0 else none
theorem windhoverkeep_Lent.calls (A0 : Option Addr) (c0 : Nat) (l0 : List Int) (r : List Int) (w : World) (hr0 : Kd.C (Kd.int .i64) w A0 l0.length l0) (hc0 : l0.length ≤ c0) (h : windhoverkeep_Lent.f l0 = some r) :
    Calls Try.prog 8 #[.slice A0 l0.length c0] w fun e w' => ∃ v0_ : Value, e = .returned (v0_) ∧ Kd.R (Kd.int .i64) 3 w' w.heap.size (fun _ => True) v0_ r ∧ Below w.heap.size w w' := by
  unfold windhoverkeep_Lent.f at h
  split at h
  · obtain rfl := Option.some.inj h
    refine (lent_room A0 c0 l0 w hr0 hc0 ‹_›).mono ?_
    rintro e w' ⟨v, rfl, hv, hb⟩
    exact ⟨v, rfl, hv.row, hb⟩
  · cases h
end Go.Proofs.Yteleiocdjcdgcaa.X
