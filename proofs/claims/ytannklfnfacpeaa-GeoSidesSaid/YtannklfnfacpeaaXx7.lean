-- Written by a program of this repo (xp.py), over the print of the kit.
import Derived.Test.YtannklfnfacpeaaXx0
import Derived.Test.YtannklfnfacpeaaXx6
namespace Go.Proofs.Ytannklfnfacpeaa.X
open Go.RowKit Go.Proofs.YtannklfnfacpeaaW.PrintWords Go.Proofs.YtannklfnfacpeaaW.PrintLast Go.Proofs.YtannklfnfacpeaaW.PrintMore
attribute [local go_sem] max2_int min2_int max_two min_two max_three min_three max_four min_four   -- for this text's walks alone
set_option linter.unusedVariables false
set_option linter.unusedSimpArgs false

/-! ### windhoverref09_On: function 54 -/
def windhoverref09_On.j0 : Nat → Bool → Option (Bool)
 | 0, _ => none
 | k + 1, x6 => some x6
def windhoverref09_On.f (k : Nat) (a0_0 : Int) (a0_1 : Int) (a1_0 : Int) (a1_1 : Int) (a2_0 : Int) (a2_1 : Int) : Option (Bool) := (windhoverref09_Cross.f a0_0 a0_1 a1_0 a1_1 a2_0 a2_1).bind fun t255 => (if t255 = 0 then (if a2_0 ≥ (mn a0_0 a1_0) then (if a2_0 ≤ (mx a0_0 a1_0) then (if a2_1 ≥ (mn a0_1 a1_1) then (windhoverref09_On.j0 k (decide (a2_1 ≤ (mx a0_1 a1_1)))) else (windhoverref09_On.j0 k false)) else (windhoverref09_On.j0 k false)) else (windhoverref09_On.j0 k false)) else (windhoverref09_On.j0 k false))
theorem windhoverref09_On.mono_l : ∀ k, (∀ y0, LeO (windhoverref09_On.j0 k y0) (windhoverref09_On.j0 (k + 1) y0))
 | 0 => fun _ r h => by simp [windhoverref09_On.j0] at h
 | k + 1 => by
  have ih0 := windhoverref09_On.mono_l k
  ·intro y0
   unfold windhoverref09_On.j0
   repeat' first
   | (with_reducible exact ih0 _)
   | (with_reducible exact LeO.refl _)
   | (with_reducible exact LeO.none _)
   | (with_reducible refine LeO.ite ?_ ?_)
   | (with_reducible refine LeO.bind ?_ (fun _ => ?_))
   | exact ih0 _
   | exact LeO.none _
   | refine LeO.ite ?_ ?_
   | refine LeO.bind ?_ (fun _ => ?_)
theorem windhoverref09_On.mono : ∀ a0 a1 a2 a3 a4 a5 k, LeO (windhoverref09_On.f k a0 a1 a2 a3 a4 a5) (windhoverref09_On.f (k + 1) a0 a1 a2 a3 a4 a5) := by
 intro a0 a1 a2 a3 a4 a5 k
 have ih0 := windhoverref09_On.mono_l k
 unfold windhoverref09_On.f
 repeat' first
   | (with_reducible exact ih0 _)
   | (with_reducible exact LeO.refl _)
   | (with_reducible exact LeO.none _)
   | (with_reducible refine LeO.ite ?_ ?_)
   | (with_reducible refine LeO.bind ?_ (fun _ => ?_))
   | exact ih0 _
   | exact LeO.none _
   | refine LeO.ite ?_ ?_
   | refine LeO.bind ?_ (fun _ => ?_)
set_option maxHeartbeats 8000000 in
set_option maxRecDepth 100000 in
theorem windhoverref09_On.calls (k : Nat) (a0_0 : Int) (a0_1 : Int) (a1_0 : Int) (a1_1 : Int) (a2_0 : Int) (a2_1 : Int) (r : Bool) (w : World) (h : windhoverref09_On.f k a0_0 a0_1 a1_0 a1_1 a2_0 a2_1 = some r) :
  Calls Try.prog 54 #[.agg #[.int .i64 a0_0, .int .i64 a0_1], .agg #[.int .i64 a1_0, .int .i64 a1_1], .agg #[.int .i64 a2_0, .int .i64 a2_1]] w fun e w' => e = .returned (.bool r) ∧ Below w.heap.size w w' := by
 have hu23 := Try.underlying23
 have HB := A0_.mk (Below.refl w.heap.size w)
 have H : ((windhoverref09_Cross.f a0_0 a0_1 a1_0 a1_1 a2_0 a2_1).bind fun t255 => (if t255 = 0 then (if a2_0 ≥ (mn a0_0 a1_0) then (if a2_0 ≤ (mx a0_0 a1_0) then (if a2_1 ≥ (mn a0_1 a1_1) then (windhoverref09_On.j0 k (decide (a2_1 ≤ (mx a0_1 a1_1)))) else (windhoverref09_On.j0 k false)) else (windhoverref09_On.j0 k false)) else (windhoverref09_On.j0 k false)) else (windhoverref09_On.j0 k false))) = some r := h
 clear h
 have HC4 := A0_.mk H
 clear H
 go_enter Try.func54, Try.ntmps54
 go_upto_region 1 with (first | ((with_reducible refine gate_dst (N := 3) rfl ?_); (try (refine gate_guard (by rfl) ?_; dsimp only)); refine box_event ?hg (N := 3) ?hd (cs := #[.int .i64 a0_0, .int .i64 a0_1]) (t := 23) ?hr ?_; (case hd => rfl); (case hg => rfl); (case hr => first | (go_simp; done) | (go_simp; rfl)); intro gb252 hg w5 hbox hb; have n0_ := A0_.mk (bSp (by repeat (first | (with_reducible first | exact HB.out | apply bAl | apply pBn | apply bD1) | exact HB.out)) hb); have n1_ := A0_.mk (hbox); have n2_ := A0_.mk ((by rw [hg]; exact (bSz (by repeat (first | (with_reducible first | exact HB.out | apply bAl | apply pBn | apply bD1) | exact HB.out))) : w.heap.size ≤ gb252)); have n3_ := A0_.mk ((by rw [hg]; exact (bSz (by repeat (first | (with_reducible first | exact HB.out | apply bAl | apply pBn | apply bD1) | exact HB.out))) : w.heap.size ≤ gb252)); clear HB; have HB := n0_; have BK252 := n1_; have GW252 := n2_; have GE252 := n3_; clear n0_ n1_ n2_ n3_; clear hb hbox hg) | ((with_reducible refine gate_dst (N := 4) rfl ?_); (try (refine gate_guard (by rfl) ?_; dsimp only)); refine box_event ?hg (N := 4) ?hd (cs := #[.int .i64 a1_0, .int .i64 a1_1]) (t := 23) ?hr ?_; (case hd => rfl); (case hg => rfl); (case hr => first | (go_simp; done) | (go_simp; rfl)); intro gb253 hg w6 hbox hb; have n0_ := A0_.mk (kBe (g := gb252) (o := .cells #[.int .i64 a0_0, .int .i64 a0_1] 23 (0, 0)) (by (with_reducible repeat (first | refine kDn ?_ _ | refine kDr ?_ | refine kAl ?_ _)); exact BK252.out) hb); have n1_ := A0_.mk (bSp (by repeat (first | (with_reducible first | exact HB.out | apply bAl | apply pBn | apply bD1 | refine bSt ?_ GE252.out) | exact HB.out)) hb); have n2_ := A0_.mk (hbox); have n3_ := A0_.mk ((by rw [hg]; exact (bSz (by repeat (first | (with_reducible first | exact HB.out | apply bAl | apply pBn | apply bD1 | refine bSt ?_ GE252.out) | exact HB.out))) : w.heap.size ≤ gb253)); have n4_ := A0_.mk ((by rw [hg]; exact (bSz (by repeat (first | (with_reducible first | exact HB.out | apply bAl | apply pBn | apply bD1 | refine bSt ?_ GE252.out) | exact HB.out))) : w.heap.size ≤ gb253)); have n5_ := A0_.mk ((by rw [hg]; exact Nat.ne_of_lt (blk_lt (g := gb252) (o := .cells #[.int .i64 a0_0, .int .i64 a0_1] 23 (0, 0)) (by (with_reducible repeat (first | refine kDn ?_ _ | refine kDr ?_ | refine kAl ?_ _)); exact BK252.out)) : gb252 ≠ gb253)); have n6_ := A0_.mk ((by rw [hg]; exact Nat.ne_of_gt (blk_lt (g := gb252) (o := .cells #[.int .i64 a0_0, .int .i64 a0_1] 23 (0, 0)) (by (with_reducible repeat (first | refine kDn ?_ _ | refine kDr ?_ | refine kAl ?_ _)); exact BK252.out)) : gb253 ≠ gb252)); clear BK252; clear HB; have BK252 := n0_; have HB := n1_; have BK253 := n2_; have GW253 := n3_; have GE253 := n4_; have NB252_253 := n5_; have NB253_252 := n6_; clear n0_ n1_ n2_ n3_ n4_ n5_ n6_; clear hb hbox hg) | ((with_reducible refine gate_dst (N := 5) rfl ?_); (try (refine gate_guard (by rfl) ?_; dsimp only)); refine box_event ?hg (N := 5) ?hd (cs := #[.int .i64 a2_0, .int .i64 a2_1]) (t := 23) ?hr ?_; (case hd => rfl); (case hg => rfl); (case hr => first | (go_simp; done) | (go_simp; rfl)); intro gb254 hg w7 hbox hb; have n0_ := A0_.mk (kBe (g := gb252) (o := .cells #[.int .i64 a0_0, .int .i64 a0_1] 23 (0, 0)) (by (with_reducible repeat (first | refine kDn ?_ _ | refine kDr ?_ | refine kAl ?_ _)); exact BK252.out) hb); have n1_ := A0_.mk (kBe (g := gb253) (o := .cells #[.int .i64 a1_0, .int .i64 a1_1] 23 (0, 0)) (by (with_reducible repeat (first | refine kDn ?_ _ | refine kDr ?_ | refine kAl ?_ _)); exact BK253.out) hb); have n2_ := A0_.mk (bSp (by repeat (first | (with_reducible first | exact HB.out | apply bAl | apply pBn | apply bD1 | refine bSt ?_ GE252.out | refine bSt ?_ GE253.out) | exact HB.out)) hb); have n3_ := A0_.mk (hbox); have n4_ := A0_.mk ((by rw [hg]; exact (bSz (by repeat (first | (with_reducible first | exact HB.out | apply bAl | apply pBn | apply bD1 | refine bSt ?_ GE252.out | refine bSt ?_ GE253.out) | exact HB.out))) : w.heap.size ≤ gb254)); have n5_ := A0_.mk ((by rw [hg]; exact (bSz (by repeat (first | (with_reducible first | exact HB.out | apply bAl | apply pBn | apply bD1 | refine bSt ?_ GE252.out | refine bSt ?_ GE253.out) | exact HB.out))) : w.heap.size ≤ gb254)); have n6_ := A0_.mk ((by rw [hg]; exact Nat.ne_of_lt (blk_lt (g := gb252) (o := .cells #[.int .i64 a0_0, .int .i64 a0_1] 23 (0, 0)) (by (with_reducible repeat (first | refine kDn ?_ _ | refine kDr ?_ | refine kAl ?_ _)); exact BK252.out)) : gb252 ≠ gb254)); have n7_ := A0_.mk ((by rw [hg]; exact Nat.ne_of_gt (blk_lt (g := gb252) (o := .cells #[.int .i64 a0_0, .int .i64 a0_1] 23 (0, 0)) (by (with_reducible repeat (first | refine kDn ?_ _ | refine kDr ?_ | refine kAl ?_ _)); exact BK252.out)) : gb254 ≠ gb252)); have n8_ := A0_.mk ((by rw [hg]; exact Nat.ne_of_lt (blk_lt (g := gb253) (o := .cells #[.int .i64 a1_0, .int .i64 a1_1] 23 (0, 0)) (by (with_reducible repeat (first | refine kDn ?_ _ | refine kDr ?_ | refine kAl ?_ _)); exact BK253.out)) : gb253 ≠ gb254)); have n9_ := A0_.mk ((by rw [hg]; exact Nat.ne_of_gt (blk_lt (g := gb253) (o := .cells #[.int .i64 a1_0, .int .i64 a1_1] 23 (0, 0)) (by (with_reducible repeat (first | refine kDn ?_ _ | refine kDr ?_ | refine kAl ?_ _)); exact BK253.out)) : gb254 ≠ gb253)); clear BK252; clear BK253; clear HB; have BK252 := n0_; have BK253 := n1_; have HB := n2_; have BK254 := n3_; have GW254 := n4_; have GE254 := n5_; have NB252_254 := n6_; have NB254_252 := n7_; have NB253_254 := n8_; have NB254_253 := n9_; clear n0_ n1_ n2_ n3_ n4_ n5_ n6_ n7_ n8_ n9_; clear hb hbox hg))
 (try simp only [Act.put, lsT, lcZ, lcS])
 go_cut [6] (fun v6 wc => ∃ (kq : Nat) (x6_3 : Bool), v6 = .bool x6_3 ∧ A0_ (windhoverref09_On.j0 kq x6_3 = some r) ∧ A0_ (kq ≤ k) ∧ A0_ (wc.heap[gb252]? = some (.cells #[.int .i64 a0_0, .int .i64 a0_1] 23 (0, 0))) ∧ A0_ (wc.heap[gb253]? = some (.cells #[.int .i64 a1_0, .int .i64 a1_1] 23 (0, 0))) ∧ A0_ (wc.heap[gb254]? = some (.cells #[.int .i64 a2_0, .int .i64 a2_1] 23 (0, 0))) ∧ A0_ (Below w.heap.size w wc))
 case first =>
  have H := HC4.out
  clear HC4
  replace H := Option.bind_eq_some_iff.mp H
  obtain ⟨t255, A80, H⟩ := H
  replace H : (if t255 = 0 then (if a2_0 ≥ (mn a0_0 a1_0) then (if a2_0 ≤ (mx a0_0 a1_0) then (if a2_1 ≥ (mn a0_1 a1_1) then (windhoverref09_On.j0 k (decide (a2_1 ≤ (mx a0_1 a1_1)))) else (windhoverref09_On.j0 k false)) else (windhoverref09_On.j0 k false)) else (windhoverref09_On.j0 k false)) else (windhoverref09_On.j0 k false)) = some r := H
  have A8 := A0_.mk A80
  clear A80
  by_cases c9 : t255 = 0
  ·rw [if_pos c9] at H
   have c9b0 : (t255 == 0) = true := beq_iff_eq.mpr c9
   have c9b1 : (t255 != 0) = false := bne_eq_false_iff_eq.mpr c9
   clear c9
   (first | rw [c9b0] | (simp only [i64_w, i32_w]; rw [c9b0]) | skip)
   obtain ⟨ji10, hji10⟩ : ∃ j_ : Int, (mn a0_0 a1_0) = j_ := ⟨_, rfl⟩
   replace H : (if a2_0 ≥ (ji10) then (if a2_0 ≤ (mx a0_0 a1_0) then (if a2_1 ≥ (mn a0_1 a1_1) then (windhoverref09_On.j0 k (decide (a2_1 ≤ (mx a0_1 a1_1)))) else (windhoverref09_On.j0 k false)) else (windhoverref09_On.j0 k false)) else (windhoverref09_On.j0 k false)) = some r := by first | (rw [hji10] at H; exact H) | (simp only [hji10] at H ⊢; exact H)
   (try rw [hji10] at A8)
   have hji10_ : (if a1_0 < a0_0 then a1_0 else a0_0) = ji10 := hji10
   by_cases c11 : a2_0 ≥ (ji10)
   ·rw [if_pos c11] at H
    have c11b0 : decide ((ji10) ≤ a2_0) = true := decide_eq_true c11
    clear c11
    obtain ⟨ji12, hji12⟩ : ∃ j_ : Int, (mx a0_0 a1_0) = j_ := ⟨_, rfl⟩
    replace H : (if a2_0 ≤ (ji12) then (if a2_1 ≥ (mn a0_1 a1_1) then (windhoverref09_On.j0 k (decide (a2_1 ≤ (mx a0_1 a1_1)))) else (windhoverref09_On.j0 k false)) else (windhoverref09_On.j0 k false)) = some r := by first | (rw [hji12] at H; exact H) | (simp only [hji12] at H ⊢; exact H)
    (try rw [hji12] at A8)
    have hji12_ : (if a0_0 < a1_0 then a1_0 else a0_0) = ji12 := hji12
    by_cases c13 : a2_0 ≤ (ji12)
    ·rw [if_pos c13] at H
     have c13b0 : decide (a2_0 ≤ (ji12)) = true := decide_eq_true c13
     clear c13
     obtain ⟨ji14, hji14⟩ : ∃ j_ : Int, (mn a0_1 a1_1) = j_ := ⟨_, rfl⟩
     replace H : (if a2_1 ≥ (ji14) then (windhoverref09_On.j0 k (decide (a2_1 ≤ (mx a0_1 a1_1)))) else (windhoverref09_On.j0 k false)) = some r := by first | (rw [hji14] at H; exact H) | (simp only [hji14] at H ⊢; exact H)
     (try rw [hji14] at A8)
     have hji14_ : (if a1_1 < a0_1 then a1_1 else a0_1) = ji14 := hji14
     by_cases c15 : a2_1 ≥ (ji14)
     ·rw [if_pos c15] at H
      have c15b0 : decide ((ji14) ≤ a2_1) = true := decide_eq_true c15
      clear c15
      obtain ⟨ji16, hji16⟩ : ∃ j_ : Int, (mx a0_1 a1_1) = j_ := ⟨_, rfl⟩
      replace H : (windhoverref09_On.j0 k (decide (a2_1 ≤ (ji16)))) = some r := by first | (rw [hji16] at H; exact H) | (simp only [hji16] at H ⊢; exact H)
      (try rw [hji16] at A8)
      have hji16_ : (if a0_1 < a1_1 then a1_1 else a0_1) = ji16 := hji16
      have H' := A0_.mk H
      clear H
      have hnb17 := NB252_253.out
      have hnc17 := NB253_252.out
      have hnb18 := NB252_254.out
      have hnc18 := NB254_252.out
      have hcz19_0 : w7.cell? ⟨gb252, 0, none⟩ = some (.int .i64 a0_0) := (kCe BK252.out 0).trans rfl
      have hcz19_1 : w7.cell? ⟨gb252, 1, none⟩ = some (.int .i64 a0_1) := (kCe BK252.out 1).trans rfl
      have hfz19_0 := kFr BK252.out 0
      have hfz19_1 := kFr BK252.out 1
      have hnb20 := NB253_254.out
      have hnc20 := NB254_253.out
      have hcz21_0 : w7.cell? ⟨gb253, 0, none⟩ = some (.int .i64 a1_0) := (kCe BK253.out 0).trans rfl
      have hcz21_1 : w7.cell? ⟨gb253, 1, none⟩ = some (.int .i64 a1_1) := (kCe BK253.out 1).trans rfl
      have hfz21_0 := kFr BK253.out 0
      have hfz21_1 := kFr BK253.out 1
      have hcz22_0 : w7.cell? ⟨gb254, 0, none⟩ = some (.int .i64 a2_0) := (kCe BK254.out 0).trans rfl
      have hcz22_1 : w7.cell? ⟨gb254, 1, none⟩ = some (.int .i64 a2_1) := (kCe BK254.out 1).trans rfl
      have hfz22_0 := kFr BK254.out 0
      have hfz22_1 := kFr BK254.out 1
      go_wp2_with (first | ((with_reducible refine gate_callee (f := 38) rfl ?_); refine goesL_ (some 10) rfl rfl Try.func38 (by kernel_rfl) rfl #[.agg #[.int .i64 a0_0, .int .i64 a0_1], .agg #[.int .i64 a1_0, .int .i64 a1_1], .agg #[.int .i64 a2_0, .int .i64 a2_1]] rfl (by (try simp only [List.map_toArray, List.map_cons, List.map_nil]); first | done | rfl | (simp only [List.length_drop, List.length_take]; rfl)) ?_; (with_reducible refine (windhoverref09_Cross.calls a0_0 a0_1 a1_0 a1_1 a2_0 a2_1 t255 _ A8.out).mono ?_); rintro e w23 ⟨rfl, hb⟩; refine ⟨_, rfl, ?_⟩; have n0_ := A0_.mk (kBe (g := gb252) (o := .cells #[.int .i64 a0_0, .int .i64 a0_1] 23 (0, 0)) (by (with_reducible repeat (first | refine kDn ?_ _ | refine kDr ?_ | refine kAl ?_ _)); exact BK252.out) hb); have n1_ := A0_.mk (kBe (g := gb253) (o := .cells #[.int .i64 a1_0, .int .i64 a1_1] 23 (0, 0)) (by (with_reducible repeat (first | refine kDn ?_ _ | refine kDr ?_ | refine kAl ?_ _)); exact BK253.out) hb); have n2_ := A0_.mk (kBe (g := gb254) (o := .cells #[.int .i64 a2_0, .int .i64 a2_1] 23 (0, 0)) (by (with_reducible repeat (first | refine kDn ?_ _ | refine kDr ?_ | refine kAl ?_ _)); exact BK254.out) hb); have n3_ := A0_.mk (bSp (by repeat (first | (with_reducible first | exact HB.out | apply bAl | apply pBn | apply bD1 | refine bSt ?_ GE252.out | refine bSt ?_ GE253.out | refine bSt ?_ GE254.out) | exact HB.out)) hb); clear BK252; clear BK253; clear BK254; clear HB; have BK252 := n0_; have BK253 := n1_; have BK254 := n2_; have HB := n3_; clear n0_ n1_ n2_ n3_; (try clear hb); (try clear hb2); (try clear hk); (try clear hi); have hcz24_0 : w23.cell? ⟨gb254, 0, none⟩ = some (.int .i64 a2_0) := (kCe BK254.out 0).trans rfl; have hcz24_1 : w23.cell? ⟨gb254, 1, none⟩ = some (.int .i64 a2_1) := (kCe BK254.out 1).trans rfl; have hfz24_0 := kFr BK254.out 0; have hfz24_1 := kFr BK254.out 1; have hcz25_0 : w23.cell? ⟨gb252, 0, none⟩ = some (.int .i64 a0_0) := (kCe BK252.out 0).trans rfl; have hcz25_1 : w23.cell? ⟨gb252, 1, none⟩ = some (.int .i64 a0_1) := (kCe BK252.out 1).trans rfl; have hfz25_0 := kFr BK252.out 0; have hfz25_1 := kFr BK252.out 1; have hcz26_0 : w23.cell? ⟨gb253, 0, none⟩ = some (.int .i64 a1_0) := (kCe BK253.out 0).trans rfl; have hcz26_1 : w23.cell? ⟨gb253, 1, none⟩ = some (.int .i64 a1_1) := (kCe BK253.out 1).trans rfl; have hfz26_0 := kFr BK253.out 0; have hfz26_1 := kFr BK253.out 1))
      go_meet
      case rel => exact ⟨_, (decide (a2_1 ≤ (ji16))), (by first | rfl | (simp; done) | (simp only [← hji16] <;> (first | rfl | simp)) | (simp [*]; done)), H', ⟨by first | omega | exact Nat.le_refl _⟩, ⟨by (with_reducible repeat (first | refine kDn ?_ _ | refine kDr ?_ | refine kAl ?_ _)); exact BK252.out⟩, ⟨by (with_reducible repeat (first | refine kDn ?_ _ | refine kDr ?_ | refine kAl ?_ _)); exact BK253.out⟩, ⟨by (with_reducible repeat (first | refine kDn ?_ _ | refine kDr ?_ | refine kAl ?_ _)); exact BK254.out⟩, ⟨by repeat (first | (with_reducible first | exact HB.out | apply bAl | apply pBn | apply bD1 | refine bSt ?_ GE252.out | refine bSt ?_ GE253.out | refine bSt ?_ GE254.out) | exact HB.out)⟩⟩
     ·rw [if_neg c15] at H
      have c15b0 : decide ((ji14) ≤ a2_1) = false := decide_eq_false c15
      clear c15
      have H' := A0_.mk H
      clear H
      have hnb27 := NB252_253.out
      have hnc27 := NB253_252.out
      have hnb28 := NB252_254.out
      have hnc28 := NB254_252.out
      have hcz29_0 : w7.cell? ⟨gb252, 0, none⟩ = some (.int .i64 a0_0) := (kCe BK252.out 0).trans rfl
      have hcz29_1 : w7.cell? ⟨gb252, 1, none⟩ = some (.int .i64 a0_1) := (kCe BK252.out 1).trans rfl
      have hfz29_0 := kFr BK252.out 0
      have hfz29_1 := kFr BK252.out 1
      have hnb30 := NB253_254.out
      have hnc30 := NB254_253.out
      have hcz31_0 : w7.cell? ⟨gb253, 0, none⟩ = some (.int .i64 a1_0) := (kCe BK253.out 0).trans rfl
      have hcz31_1 : w7.cell? ⟨gb253, 1, none⟩ = some (.int .i64 a1_1) := (kCe BK253.out 1).trans rfl
      have hfz31_0 := kFr BK253.out 0
      have hfz31_1 := kFr BK253.out 1
      have hcz32_0 : w7.cell? ⟨gb254, 0, none⟩ = some (.int .i64 a2_0) := (kCe BK254.out 0).trans rfl
      have hcz32_1 : w7.cell? ⟨gb254, 1, none⟩ = some (.int .i64 a2_1) := (kCe BK254.out 1).trans rfl
      have hfz32_0 := kFr BK254.out 0
      have hfz32_1 := kFr BK254.out 1
      go_wp2_with (first | ((with_reducible refine gate_callee (f := 38) rfl ?_); refine goesL_ (some 10) rfl rfl Try.func38 (by kernel_rfl) rfl #[.agg #[.int .i64 a0_0, .int .i64 a0_1], .agg #[.int .i64 a1_0, .int .i64 a1_1], .agg #[.int .i64 a2_0, .int .i64 a2_1]] rfl (by (try simp only [List.map_toArray, List.map_cons, List.map_nil]); first | done | rfl | (simp only [List.length_drop, List.length_take]; rfl)) ?_; (with_reducible refine (windhoverref09_Cross.calls a0_0 a0_1 a1_0 a1_1 a2_0 a2_1 t255 _ A8.out).mono ?_); rintro e w33 ⟨rfl, hb⟩; refine ⟨_, rfl, ?_⟩; have n0_ := A0_.mk (kBe (g := gb252) (o := .cells #[.int .i64 a0_0, .int .i64 a0_1] 23 (0, 0)) (by (with_reducible repeat (first | refine kDn ?_ _ | refine kDr ?_ | refine kAl ?_ _)); exact BK252.out) hb); have n1_ := A0_.mk (kBe (g := gb253) (o := .cells #[.int .i64 a1_0, .int .i64 a1_1] 23 (0, 0)) (by (with_reducible repeat (first | refine kDn ?_ _ | refine kDr ?_ | refine kAl ?_ _)); exact BK253.out) hb); have n2_ := A0_.mk (kBe (g := gb254) (o := .cells #[.int .i64 a2_0, .int .i64 a2_1] 23 (0, 0)) (by (with_reducible repeat (first | refine kDn ?_ _ | refine kDr ?_ | refine kAl ?_ _)); exact BK254.out) hb); have n3_ := A0_.mk (bSp (by repeat (first | (with_reducible first | exact HB.out | apply bAl | apply pBn | apply bD1 | refine bSt ?_ GE252.out | refine bSt ?_ GE253.out | refine bSt ?_ GE254.out) | exact HB.out)) hb); clear BK252; clear BK253; clear BK254; clear HB; have BK252 := n0_; have BK253 := n1_; have BK254 := n2_; have HB := n3_; clear n0_ n1_ n2_ n3_; (try clear hb); (try clear hb2); (try clear hk); (try clear hi); have hcz34_0 : w33.cell? ⟨gb254, 0, none⟩ = some (.int .i64 a2_0) := (kCe BK254.out 0).trans rfl; have hcz34_1 : w33.cell? ⟨gb254, 1, none⟩ = some (.int .i64 a2_1) := (kCe BK254.out 1).trans rfl; have hfz34_0 := kFr BK254.out 0; have hfz34_1 := kFr BK254.out 1; have hcz35_0 : w33.cell? ⟨gb252, 0, none⟩ = some (.int .i64 a0_0) := (kCe BK252.out 0).trans rfl; have hcz35_1 : w33.cell? ⟨gb252, 1, none⟩ = some (.int .i64 a0_1) := (kCe BK252.out 1).trans rfl; have hfz35_0 := kFr BK252.out 0; have hfz35_1 := kFr BK252.out 1; have hcz36_0 : w33.cell? ⟨gb253, 0, none⟩ = some (.int .i64 a1_0) := (kCe BK253.out 0).trans rfl; have hcz36_1 : w33.cell? ⟨gb253, 1, none⟩ = some (.int .i64 a1_1) := (kCe BK253.out 1).trans rfl; have hfz36_0 := kFr BK253.out 0; have hfz36_1 := kFr BK253.out 1))
      go_meet
      case rel => exact ⟨_, (false), (by first | rfl | (simp; done) | (simp [*]; done)), H', ⟨by first | omega | exact Nat.le_refl _⟩, ⟨by (with_reducible repeat (first | refine kDn ?_ _ | refine kDr ?_ | refine kAl ?_ _)); exact BK252.out⟩, ⟨by (with_reducible repeat (first | refine kDn ?_ _ | refine kDr ?_ | refine kAl ?_ _)); exact BK253.out⟩, ⟨by (with_reducible repeat (first | refine kDn ?_ _ | refine kDr ?_ | refine kAl ?_ _)); exact BK254.out⟩, ⟨by repeat (first | (with_reducible first | exact HB.out | apply bAl | apply pBn | apply bD1 | refine bSt ?_ GE252.out | refine bSt ?_ GE253.out | refine bSt ?_ GE254.out) | exact HB.out)⟩⟩
    ·rw [if_neg c13] at H
     have c13b0 : decide (a2_0 ≤ (ji12)) = false := decide_eq_false c13
     clear c13
     have H' := A0_.mk H
     clear H
     have hnb37 := NB252_253.out
     have hnc37 := NB253_252.out
     have hnb38 := NB252_254.out
     have hnc38 := NB254_252.out
     have hcz39_0 : w7.cell? ⟨gb252, 0, none⟩ = some (.int .i64 a0_0) := (kCe BK252.out 0).trans rfl
     have hcz39_1 : w7.cell? ⟨gb252, 1, none⟩ = some (.int .i64 a0_1) := (kCe BK252.out 1).trans rfl
     have hfz39_0 := kFr BK252.out 0
     have hfz39_1 := kFr BK252.out 1
     have hnb40 := NB253_254.out
     have hnc40 := NB254_253.out
     have hcz41_0 : w7.cell? ⟨gb253, 0, none⟩ = some (.int .i64 a1_0) := (kCe BK253.out 0).trans rfl
     have hcz41_1 : w7.cell? ⟨gb253, 1, none⟩ = some (.int .i64 a1_1) := (kCe BK253.out 1).trans rfl
     have hfz41_0 := kFr BK253.out 0
     have hfz41_1 := kFr BK253.out 1
     have hcz42_0 : w7.cell? ⟨gb254, 0, none⟩ = some (.int .i64 a2_0) := (kCe BK254.out 0).trans rfl
     have hcz42_1 : w7.cell? ⟨gb254, 1, none⟩ = some (.int .i64 a2_1) := (kCe BK254.out 1).trans rfl
     have hfz42_0 := kFr BK254.out 0
     have hfz42_1 := kFr BK254.out 1
     go_wp2_with (first | ((with_reducible refine gate_callee (f := 38) rfl ?_); refine goesL_ (some 10) rfl rfl Try.func38 (by kernel_rfl) rfl #[.agg #[.int .i64 a0_0, .int .i64 a0_1], .agg #[.int .i64 a1_0, .int .i64 a1_1], .agg #[.int .i64 a2_0, .int .i64 a2_1]] rfl (by (try simp only [List.map_toArray, List.map_cons, List.map_nil]); first | done | rfl | (simp only [List.length_drop, List.length_take]; rfl)) ?_; (with_reducible refine (windhoverref09_Cross.calls a0_0 a0_1 a1_0 a1_1 a2_0 a2_1 t255 _ A8.out).mono ?_); rintro e w43 ⟨rfl, hb⟩; refine ⟨_, rfl, ?_⟩; have n0_ := A0_.mk (kBe (g := gb252) (o := .cells #[.int .i64 a0_0, .int .i64 a0_1] 23 (0, 0)) (by (with_reducible repeat (first | refine kDn ?_ _ | refine kDr ?_ | refine kAl ?_ _)); exact BK252.out) hb); have n1_ := A0_.mk (kBe (g := gb253) (o := .cells #[.int .i64 a1_0, .int .i64 a1_1] 23 (0, 0)) (by (with_reducible repeat (first | refine kDn ?_ _ | refine kDr ?_ | refine kAl ?_ _)); exact BK253.out) hb); have n2_ := A0_.mk (kBe (g := gb254) (o := .cells #[.int .i64 a2_0, .int .i64 a2_1] 23 (0, 0)) (by (with_reducible repeat (first | refine kDn ?_ _ | refine kDr ?_ | refine kAl ?_ _)); exact BK254.out) hb); have n3_ := A0_.mk (bSp (by repeat (first | (with_reducible first | exact HB.out | apply bAl | apply pBn | apply bD1 | refine bSt ?_ GE252.out | refine bSt ?_ GE253.out | refine bSt ?_ GE254.out) | exact HB.out)) hb); clear BK252; clear BK253; clear BK254; clear HB; have BK252 := n0_; have BK253 := n1_; have BK254 := n2_; have HB := n3_; clear n0_ n1_ n2_ n3_; (try clear hb); (try clear hb2); (try clear hk); (try clear hi); have hcz44_0 : w43.cell? ⟨gb254, 0, none⟩ = some (.int .i64 a2_0) := (kCe BK254.out 0).trans rfl; have hcz44_1 : w43.cell? ⟨gb254, 1, none⟩ = some (.int .i64 a2_1) := (kCe BK254.out 1).trans rfl; have hfz44_0 := kFr BK254.out 0; have hfz44_1 := kFr BK254.out 1; have hcz45_0 : w43.cell? ⟨gb252, 0, none⟩ = some (.int .i64 a0_0) := (kCe BK252.out 0).trans rfl; have hcz45_1 : w43.cell? ⟨gb252, 1, none⟩ = some (.int .i64 a0_1) := (kCe BK252.out 1).trans rfl; have hfz45_0 := kFr BK252.out 0; have hfz45_1 := kFr BK252.out 1; have hcz46_0 : w43.cell? ⟨gb253, 0, none⟩ = some (.int .i64 a1_0) := (kCe BK253.out 0).trans rfl; have hcz46_1 : w43.cell? ⟨gb253, 1, none⟩ = some (.int .i64 a1_1) := (kCe BK253.out 1).trans rfl; have hfz46_0 := kFr BK253.out 0; have hfz46_1 := kFr BK253.out 1))
     go_meet
     case rel => exact ⟨_, (false), (by first | rfl | (simp; done) | (simp [*]; done)), H', ⟨by first | omega | exact Nat.le_refl _⟩, ⟨by (with_reducible repeat (first | refine kDn ?_ _ | refine kDr ?_ | refine kAl ?_ _)); exact BK252.out⟩, ⟨by (with_reducible repeat (first | refine kDn ?_ _ | refine kDr ?_ | refine kAl ?_ _)); exact BK253.out⟩, ⟨by (with_reducible repeat (first | refine kDn ?_ _ | refine kDr ?_ | refine kAl ?_ _)); exact BK254.out⟩, ⟨by repeat (first | (with_reducible first | exact HB.out | apply bAl | apply pBn | apply bD1 | refine bSt ?_ GE252.out | refine bSt ?_ GE253.out | refine bSt ?_ GE254.out) | exact HB.out)⟩⟩
   ·rw [if_neg c11] at H
    have c11b0 : decide ((ji10) ≤ a2_0) = false := decide_eq_false c11
    clear c11
    have H' := A0_.mk H
    clear H
    have hnb47 := NB252_253.out
    have hnc47 := NB253_252.out
    have hnb48 := NB252_254.out
    have hnc48 := NB254_252.out
    have hcz49_0 : w7.cell? ⟨gb252, 0, none⟩ = some (.int .i64 a0_0) := (kCe BK252.out 0).trans rfl
    have hcz49_1 : w7.cell? ⟨gb252, 1, none⟩ = some (.int .i64 a0_1) := (kCe BK252.out 1).trans rfl
    have hfz49_0 := kFr BK252.out 0
    have hfz49_1 := kFr BK252.out 1
    have hnb50 := NB253_254.out
    have hnc50 := NB254_253.out
    have hcz51_0 : w7.cell? ⟨gb253, 0, none⟩ = some (.int .i64 a1_0) := (kCe BK253.out 0).trans rfl
    have hcz51_1 : w7.cell? ⟨gb253, 1, none⟩ = some (.int .i64 a1_1) := (kCe BK253.out 1).trans rfl
    have hfz51_0 := kFr BK253.out 0
    have hfz51_1 := kFr BK253.out 1
    have hcz52_0 : w7.cell? ⟨gb254, 0, none⟩ = some (.int .i64 a2_0) := (kCe BK254.out 0).trans rfl
    have hcz52_1 : w7.cell? ⟨gb254, 1, none⟩ = some (.int .i64 a2_1) := (kCe BK254.out 1).trans rfl
    have hfz52_0 := kFr BK254.out 0
    have hfz52_1 := kFr BK254.out 1
    go_wp2_with (first | ((with_reducible refine gate_callee (f := 38) rfl ?_); refine goesL_ (some 10) rfl rfl Try.func38 (by kernel_rfl) rfl #[.agg #[.int .i64 a0_0, .int .i64 a0_1], .agg #[.int .i64 a1_0, .int .i64 a1_1], .agg #[.int .i64 a2_0, .int .i64 a2_1]] rfl (by (try simp only [List.map_toArray, List.map_cons, List.map_nil]); first | done | rfl | (simp only [List.length_drop, List.length_take]; rfl)) ?_; (with_reducible refine (windhoverref09_Cross.calls a0_0 a0_1 a1_0 a1_1 a2_0 a2_1 t255 _ A8.out).mono ?_); rintro e w53 ⟨rfl, hb⟩; refine ⟨_, rfl, ?_⟩; have n0_ := A0_.mk (kBe (g := gb252) (o := .cells #[.int .i64 a0_0, .int .i64 a0_1] 23 (0, 0)) (by (with_reducible repeat (first | refine kDn ?_ _ | refine kDr ?_ | refine kAl ?_ _)); exact BK252.out) hb); have n1_ := A0_.mk (kBe (g := gb253) (o := .cells #[.int .i64 a1_0, .int .i64 a1_1] 23 (0, 0)) (by (with_reducible repeat (first | refine kDn ?_ _ | refine kDr ?_ | refine kAl ?_ _)); exact BK253.out) hb); have n2_ := A0_.mk (kBe (g := gb254) (o := .cells #[.int .i64 a2_0, .int .i64 a2_1] 23 (0, 0)) (by (with_reducible repeat (first | refine kDn ?_ _ | refine kDr ?_ | refine kAl ?_ _)); exact BK254.out) hb); have n3_ := A0_.mk (bSp (by repeat (first | (with_reducible first | exact HB.out | apply bAl | apply pBn | apply bD1 | refine bSt ?_ GE252.out | refine bSt ?_ GE253.out | refine bSt ?_ GE254.out) | exact HB.out)) hb); clear BK252; clear BK253; clear BK254; clear HB; have BK252 := n0_; have BK253 := n1_; have BK254 := n2_; have HB := n3_; clear n0_ n1_ n2_ n3_; (try clear hb); (try clear hb2); (try clear hk); (try clear hi); have hcz54_0 : w53.cell? ⟨gb254, 0, none⟩ = some (.int .i64 a2_0) := (kCe BK254.out 0).trans rfl; have hcz54_1 : w53.cell? ⟨gb254, 1, none⟩ = some (.int .i64 a2_1) := (kCe BK254.out 1).trans rfl; have hfz54_0 := kFr BK254.out 0; have hfz54_1 := kFr BK254.out 1; have hcz55_0 : w53.cell? ⟨gb252, 0, none⟩ = some (.int .i64 a0_0) := (kCe BK252.out 0).trans rfl; have hcz55_1 : w53.cell? ⟨gb252, 1, none⟩ = some (.int .i64 a0_1) := (kCe BK252.out 1).trans rfl; have hfz55_0 := kFr BK252.out 0; have hfz55_1 := kFr BK252.out 1; have hcz56_0 : w53.cell? ⟨gb253, 0, none⟩ = some (.int .i64 a1_0) := (kCe BK253.out 0).trans rfl; have hcz56_1 : w53.cell? ⟨gb253, 1, none⟩ = some (.int .i64 a1_1) := (kCe BK253.out 1).trans rfl; have hfz56_0 := kFr BK253.out 0; have hfz56_1 := kFr BK253.out 1))
    go_meet
    case rel => exact ⟨_, (false), (by first | rfl | (simp; done) | (simp [*]; done)), H', ⟨by first | omega | exact Nat.le_refl _⟩, ⟨by (with_reducible repeat (first | refine kDn ?_ _ | refine kDr ?_ | refine kAl ?_ _)); exact BK252.out⟩, ⟨by (with_reducible repeat (first | refine kDn ?_ _ | refine kDr ?_ | refine kAl ?_ _)); exact BK253.out⟩, ⟨by (with_reducible repeat (first | refine kDn ?_ _ | refine kDr ?_ | refine kAl ?_ _)); exact BK254.out⟩, ⟨by repeat (first | (with_reducible first | exact HB.out | apply bAl | apply pBn | apply bD1 | refine bSt ?_ GE252.out | refine bSt ?_ GE253.out | refine bSt ?_ GE254.out) | exact HB.out)⟩⟩
  ·rw [if_neg c9] at H
   have c9b0 : (t255 == 0) = false := beq_eq_false_iff_ne.mpr c9
   have c9b1 : (t255 != 0) = true := bne_iff_ne.mpr c9
   (first | rw [c9b0] | (simp only [i64_w, i32_w]; rw [c9b0]) | skip)
   have H' := A0_.mk H
   clear H
   have hnb57 := NB252_253.out
   have hnc57 := NB253_252.out
   have hnb58 := NB252_254.out
   have hnc58 := NB254_252.out
   have hcz59_0 : w7.cell? ⟨gb252, 0, none⟩ = some (.int .i64 a0_0) := (kCe BK252.out 0).trans rfl
   have hcz59_1 : w7.cell? ⟨gb252, 1, none⟩ = some (.int .i64 a0_1) := (kCe BK252.out 1).trans rfl
   have hfz59_0 := kFr BK252.out 0
   have hfz59_1 := kFr BK252.out 1
   have hnb60 := NB253_254.out
   have hnc60 := NB254_253.out
   have hcz61_0 : w7.cell? ⟨gb253, 0, none⟩ = some (.int .i64 a1_0) := (kCe BK253.out 0).trans rfl
   have hcz61_1 : w7.cell? ⟨gb253, 1, none⟩ = some (.int .i64 a1_1) := (kCe BK253.out 1).trans rfl
   have hfz61_0 := kFr BK253.out 0
   have hfz61_1 := kFr BK253.out 1
   have hcz62_0 : w7.cell? ⟨gb254, 0, none⟩ = some (.int .i64 a2_0) := (kCe BK254.out 0).trans rfl
   have hcz62_1 : w7.cell? ⟨gb254, 1, none⟩ = some (.int .i64 a2_1) := (kCe BK254.out 1).trans rfl
   have hfz62_0 := kFr BK254.out 0
   have hfz62_1 := kFr BK254.out 1
   go_wp2_with (first | ((with_reducible refine gate_callee (f := 38) rfl ?_); refine goesL_ (some 10) rfl rfl Try.func38 (by kernel_rfl) rfl #[.agg #[.int .i64 a0_0, .int .i64 a0_1], .agg #[.int .i64 a1_0, .int .i64 a1_1], .agg #[.int .i64 a2_0, .int .i64 a2_1]] rfl (by (try simp only [List.map_toArray, List.map_cons, List.map_nil]); first | done | rfl | (simp only [List.length_drop, List.length_take]; rfl)) ?_; (with_reducible refine (windhoverref09_Cross.calls a0_0 a0_1 a1_0 a1_1 a2_0 a2_1 t255 _ A8.out).mono ?_); rintro e w63 ⟨rfl, hb⟩; refine ⟨_, rfl, ?_⟩; have n0_ := A0_.mk (kBe (g := gb252) (o := .cells #[.int .i64 a0_0, .int .i64 a0_1] 23 (0, 0)) (by (with_reducible repeat (first | refine kDn ?_ _ | refine kDr ?_ | refine kAl ?_ _)); exact BK252.out) hb); have n1_ := A0_.mk (kBe (g := gb253) (o := .cells #[.int .i64 a1_0, .int .i64 a1_1] 23 (0, 0)) (by (with_reducible repeat (first | refine kDn ?_ _ | refine kDr ?_ | refine kAl ?_ _)); exact BK253.out) hb); have n2_ := A0_.mk (kBe (g := gb254) (o := .cells #[.int .i64 a2_0, .int .i64 a2_1] 23 (0, 0)) (by (with_reducible repeat (first | refine kDn ?_ _ | refine kDr ?_ | refine kAl ?_ _)); exact BK254.out) hb); have n3_ := A0_.mk (bSp (by repeat (first | (with_reducible first | exact HB.out | apply bAl | apply pBn | apply bD1 | refine bSt ?_ GE252.out | refine bSt ?_ GE253.out | refine bSt ?_ GE254.out) | exact HB.out)) hb); clear BK252; clear BK253; clear BK254; clear HB; have BK252 := n0_; have BK253 := n1_; have BK254 := n2_; have HB := n3_; clear n0_ n1_ n2_ n3_; (try clear hb); (try clear hb2); (try clear hk); (try clear hi)))
   go_meet
   case rel => exact ⟨_, (false), (by first | rfl | (simp; done) | (simp [*]; done)), H', ⟨by first | omega | exact Nat.le_refl _⟩, ⟨by (with_reducible repeat (first | refine kDn ?_ _ | refine kDr ?_ | refine kAl ?_ _)); exact BK252.out⟩, ⟨by (with_reducible repeat (first | refine kDn ?_ _ | refine kDr ?_ | refine kAl ?_ _)); exact BK253.out⟩, ⟨by (with_reducible repeat (first | refine kDn ?_ _ | refine kDr ?_ | refine kAl ?_ _)); exact BK254.out⟩, ⟨by repeat (first | (with_reducible first | exact HB.out | apply bAl | apply pBn | apply bD1 | refine bSt ?_ GE252.out | refine bSt ?_ GE253.out | refine bSt ?_ GE254.out) | exact HB.out)⟩⟩
 case rest =>
  clear HC4
  try clear c1
  try clear c2
  try clear p2
  try clear c3
  try clear c4
  try clear c5
  try clear c6
  try clear c9
  try clear c9b0
  try clear c9b1
  try clear c11
  try clear c11b0
  try clear c13
  try clear c13b0
  try clear c15
  try clear c15b0
  try clear c17
  try clear c18
  try clear c20
  try clear c27
  try clear c28
  try clear c30
  try clear c37
  try clear c38
  try clear c40
  try clear c47
  try clear c48
  try clear c50
  try clear c54
  try clear c57
  try clear c58
  try clear c60
  try clear hcz19_0
  try clear hcz19_1
  try clear hcz21_0
  try clear hcz21_1
  try clear hcz22_0
  try clear hcz22_1
  try clear hcz24_0
  try clear hcz24_1
  try clear hcz25_0
  try clear hcz25_1
  try clear hcz26_0
  try clear hcz26_1
  try clear hcz29_0
  try clear hcz29_1
  try clear hcz31_0
  try clear hcz31_1
  try clear hcz32_0
  try clear hcz32_1
  try clear hcz34_0
  try clear hcz34_1
  try clear hcz35_0
  try clear hcz35_1
  try clear hcz36_0
  try clear hcz36_1
  try clear hcz39_0
  try clear hcz39_1
  try clear hcz41_0
  try clear hcz41_1
  try clear hcz42_0
  try clear hcz42_1
  try clear hcz44_0
  try clear hcz44_1
  try clear hcz45_0
  try clear hcz45_1
  try clear hcz46_0
  try clear hcz46_1
  try clear hcz49_0
  try clear hcz49_1
  try clear hcz51_0
  try clear hcz51_1
  try clear hcz52_0
  try clear hcz52_1
  try clear hcz54_0
  try clear hcz54_1
  try clear hcz55_0
  try clear hcz55_1
  try clear hcz56_0
  try clear hcz56_1
  try clear hcz59_0
  try clear hcz59_1
  try clear hcz61_0
  try clear hcz61_1
  try clear hcz62_0
  try clear hcz62_1
  try clear hfz19_0
  try clear hfz19_1
  try clear hfz21_0
  try clear hfz21_1
  try clear hfz22_0
  try clear hfz22_1
  try clear hfz24_0
  try clear hfz24_1
  try clear hfz25_0
  try clear hfz25_1
  try clear hfz26_0
  try clear hfz26_1
  try clear hfz29_0
  try clear hfz29_1
  try clear hfz31_0
  try clear hfz31_1
  try clear hfz32_0
  try clear hfz32_1
  try clear hfz34_0
  try clear hfz34_1
  try clear hfz35_0
  try clear hfz35_1
  try clear hfz36_0
  try clear hfz36_1
  try clear hfz39_0
  try clear hfz39_1
  try clear hfz41_0
  try clear hfz41_1
  try clear hfz42_0
  try clear hfz42_1
  try clear hfz44_0
  try clear hfz44_1
  try clear hfz45_0
  try clear hfz45_1
  try clear hfz46_0
  try clear hfz46_1
  try clear hfz49_0
  try clear hfz49_1
  try clear hfz51_0
  try clear hfz51_1
  try clear hfz52_0
  try clear hfz52_1
  try clear hfz54_0
  try clear hfz54_1
  try clear hfz55_0
  try clear hfz55_1
  try clear hfz56_0
  try clear hfz56_1
  try clear hfz59_0
  try clear hfz59_1
  try clear hfz61_0
  try clear hfz61_1
  try clear hfz62_0
  try clear hfz62_1
  obtain ⟨kq, x6_3, rfl, HA, HJ3, BK252, BK253, BK254, HB⟩ := hcut
  cases kq with
  | zero => exact absurd HA.out (by simp [windhoverref09_On.j0])
  | succ kj3 =>
   have H := HA.out
   clear HA
   simp only [windhoverref09_On.j0] at H
   obtain rfl := Option.some.inj H
   go_wp2
   go_ret
   exact ⟨by first | rfl | (simp [errW_none, errW_some] <;> rfl) | (simp [*, errW_none, errW_some] <;> rfl), by repeat (first | (with_reducible first | exact HB.out | apply bAl | apply pBn | apply bD1 | refine bSt ?_ GE252.out | refine bSt ?_ GE253.out | refine bSt ?_ GE254.out) | exact HB.out)⟩

end Go.Proofs.Ytannklfnfacpeaa.X
