-- Written by a program of this repo (xp.py), over the print of the kit.
import Derived.Test.YtannklfnfacpeaaXx0
import Derived.Test.YtannklfnfacpeaaXx6
import Derived.Test.YtannklfnfacpeaaXx7
namespace Go.Proofs.Ytannklfnfacpeaa.X
open Go.RowKit Go.Proofs.YtannklfnfacpeaaW.PrintWords Go.Proofs.YtannklfnfacpeaaW.PrintLast Go.Proofs.YtannklfnfacpeaaW.PrintMore
attribute [local go_sem] max2_int min2_int max_two min_two max_three min_three max_four min_four   -- for this text's walks alone
set_option linter.unusedVariables false
set_option linter.unusedSimpArgs false

/-! ### windhoverref09_Common: function 41 -/
def windhoverref09_Common.j0 : Nat → Bool → Int → Int → Int → Int → Int → Int → Int → Int → Option (Bool)
 | 0, _, _, _, _, _, _, _, _, _ => none
 | k + 1, x30, x257000, x257001, x258000, x258001, x259000, x259001, x260000, x260001 => if x30 = true then (some true) else ((windhoverref09_Cross.f x257000 x257001 x258000 x258001 x259000 x259001).bind fun t264 => ((windhoverref09_sign.f t264).bind fun t265 => ((windhoverref09_Cross.f x257000 x257001 x258000 x258001 x260000 x260001).bind fun t266 => ((windhoverref09_sign.f t266).bind fun t267 => (if (wrap64 (t265 * t267)) < 0 then ((windhoverref09_Cross.f x259000 x259001 x260000 x260001 x257000 x257001).bind fun t268 => ((windhoverref09_sign.f t268).bind fun t269 => ((windhoverref09_Cross.f x259000 x259001 x260000 x260001 x258000 x258001).bind fun t270 => ((windhoverref09_sign.f t270).bind fun t271 => (some (decide ((wrap64 (t269 * t271)) < 0))))))) else (some false))))))
def windhoverref09_Common.f (k : Nat) (a0_0 : Int) (a0_1 : Int) (a1_0 : Int) (a1_1 : Int) (a2_0 : Int) (a2_1 : Int) (a3_0 : Int) (a3_1 : Int) : Option (Bool) := (windhoverref09_On.f k a0_0 a0_1 a1_0 a1_1 a2_0 a2_1).bind fun t260 => (if t260 = true then (windhoverref09_Common.j0 k true a0_0 a0_1 a1_0 a1_1 a2_0 a2_1 a3_0 a3_1) else ((windhoverref09_On.f k a0_0 a0_1 a1_0 a1_1 a3_0 a3_1).bind fun t261 => (if t261 = true then (windhoverref09_Common.j0 k true a0_0 a0_1 a1_0 a1_1 a2_0 a2_1 a3_0 a3_1) else ((windhoverref09_On.f k a2_0 a2_1 a3_0 a3_1 a0_0 a0_1).bind fun t262 => (if t262 = true then (windhoverref09_Common.j0 k true a0_0 a0_1 a1_0 a1_1 a2_0 a2_1 a3_0 a3_1) else ((windhoverref09_On.f k a2_0 a2_1 a3_0 a3_1 a1_0 a1_1).bind fun t263 => (windhoverref09_Common.j0 k t263 a0_0 a0_1 a1_0 a1_1 a2_0 a2_1 a3_0 a3_1)))))))
theorem windhoverref09_Common.mono_l : ∀ k, (∀ y0 y1 y2 y3 y4 y5 y6 y7 y8, LeO (windhoverref09_Common.j0 k y0 y1 y2 y3 y4 y5 y6 y7 y8) (windhoverref09_Common.j0 (k + 1) y0 y1 y2 y3 y4 y5 y6 y7 y8))
 | 0 => fun _ _ _ _ _ _ _ _ _ r h => by simp [windhoverref09_Common.j0] at h
 | k + 1 => by
  have ih0 := windhoverref09_Common.mono_l k
  ·intro y0 y1 y2 y3 y4 y5 y6 y7 y8
   unfold windhoverref09_Common.j0
   repeat' first
   | (with_reducible exact ih0 _ _ _ _ _ _ _ _ _)
   | (with_reducible exact windhoverref09_On.mono _ _ _ _ _ _ _)
   | (with_reducible exact LeO.refl _)
   | (with_reducible exact LeO.none _)
   | (with_reducible refine LeO.ite ?_ ?_)
   | (with_reducible refine LeO.bind ?_ (fun _ => ?_))
   | exact ih0 _ _ _ _ _ _ _ _ _
   | exact windhoverref09_On.mono _ _ _ _ _ _ _
   | exact LeO.none _
   | refine LeO.ite ?_ ?_
   | refine LeO.bind ?_ (fun _ => ?_)
theorem windhoverref09_Common.mono : ∀ a0 a1 a2 a3 a4 a5 a6 a7 k, LeO (windhoverref09_Common.f k a0 a1 a2 a3 a4 a5 a6 a7) (windhoverref09_Common.f (k + 1) a0 a1 a2 a3 a4 a5 a6 a7) := by
 intro a0 a1 a2 a3 a4 a5 a6 a7 k
 have ih0 := windhoverref09_Common.mono_l k
 unfold windhoverref09_Common.f
 repeat' first
   | (with_reducible exact ih0 _ _ _ _ _ _ _ _ _)
   | (with_reducible exact windhoverref09_On.mono _ _ _ _ _ _ _)
   | (with_reducible exact LeO.refl _)
   | (with_reducible exact LeO.none _)
   | (with_reducible refine LeO.ite ?_ ?_)
   | (with_reducible refine LeO.bind ?_ (fun _ => ?_))
   | exact ih0 _ _ _ _ _ _ _ _ _
   | exact windhoverref09_On.mono _ _ _ _ _ _ _
   | exact LeO.none _
   | refine LeO.ite ?_ ?_
   | refine LeO.bind ?_ (fun _ => ?_)
def windhoverref09_Common.T3 : Bool × List (List Nat × List Nat) := (true, [([], []), ([], []), ([], []), ([0, 1, 2], [0, 1, 2]), ([3, 3], [3]), ([], []), ([], []), ([], []), ([5, 6, 7, 4], [5, 6, 7]), ([8, 8], [8]), ([4, 9], [4, 9]), ([10], [10]), ([11, 9], [11]), ([12], [12]), ([12], [12]), ([12], [12]), ([13, 14, 15, 12, 12], [12, 13, 14, 15]), ([16, 16, 12], [12, 16]), ([12], [12]), ([12], [12]), ([12], [12]), ([18, 19, 20, 17, 12], [12, 18, 19, 20]), ([21, 21, 12], [12, 21]), ([17, 22, 12], [12, 17, 22]), ([23, 12], [12, 23]), ([12, 24], [12, 24]), ([25, 22, 0, 1, 2, 3, 4, 5, 6, 7, 8, 9, 10, 11, 12, 13, 14, 15, 16, 17, 18, 19, 20, 21, 22, 23, 24, 25], [25])])
def windhoverref09_Common.B3 : List Nat := [0, 0, 0, 7, 15, 0, 0, 0, 255, 511, 1023, 2047, 4095, 8191, 8191, 8191, 65535, 131071, 8191, 8191, 8191, 2097151, 4194303, 8388607, 16777215, 33554431, 67108863]
theorem windhoverref09_Common.tab3 : rtab .any (opsOf Try.f41 3) = windhoverref09_Common.T3 := by kernel_rfl
theorem windhoverref09_Common.bits3 : waitsOk windhoverref09_Common.T3.2 windhoverref09_Common.B3 = true := by kernel_rfl
set_option maxHeartbeats 8000000 in
set_option maxRecDepth 100000 in
theorem windhoverref09_Common.calls (k : Nat) (a0_0 : Int) (a0_1 : Int) (a1_0 : Int) (a1_1 : Int) (a2_0 : Int) (a2_1 : Int) (a3_0 : Int) (a3_1 : Int) (r : Bool) (w : World) (h : windhoverref09_Common.f k a0_0 a0_1 a1_0 a1_1 a2_0 a2_1 a3_0 a3_1 = some r) :
  Calls Try.prog 41 #[.agg #[.int .i64 a0_0, .int .i64 a0_1], .agg #[.int .i64 a1_0, .int .i64 a1_1], .agg #[.int .i64 a2_0, .int .i64 a2_1], .agg #[.int .i64 a3_0, .int .i64 a3_1]] w fun e w' => e = .returned (.bool r) ∧ Below w.heap.size w w' := by
 have hu23 := Try.underlying23
 have HB := A0_.mk (Below.refl w.heap.size w)
 have H : ((windhoverref09_On.f k a0_0 a0_1 a1_0 a1_1 a2_0 a2_1).bind fun t260 => (if t260 = true then (windhoverref09_Common.j0 k true a0_0 a0_1 a1_0 a1_1 a2_0 a2_1 a3_0 a3_1) else ((windhoverref09_On.f k a0_0 a0_1 a1_0 a1_1 a3_0 a3_1).bind fun t261 => (if t261 = true then (windhoverref09_Common.j0 k true a0_0 a0_1 a1_0 a1_1 a2_0 a2_1 a3_0 a3_1) else ((windhoverref09_On.f k a2_0 a2_1 a3_0 a3_1 a0_0 a0_1).bind fun t262 => (if t262 = true then (windhoverref09_Common.j0 k true a0_0 a0_1 a1_0 a1_1 a2_0 a2_1 a3_0 a3_1) else ((windhoverref09_On.f k a2_0 a2_1 a3_0 a3_1 a1_0 a1_1).bind fun t263 => (windhoverref09_Common.j0 k t263 a0_0 a0_1 a1_0 a1_1 a2_0 a2_1 a3_0 a3_1)))))))) = some r := h
 clear h
 have HC5 := A0_.mk H
 clear H
 go_enter Try.func41, Try.ntmps41
 go_upto_region 1 with (first | ((with_reducible refine gate_dst (N := 4) rfl ?_); refine box_event ?hg (N := 4) ?hd (cs := #[.int .i64 a0_0, .int .i64 a0_1]) (t := 23) ?hr ?_; (case hd => rfl); (case hg => rfl); (case hr => first | (go_simp; done) | (go_simp; rfl)); intro gb256 hg w6 hbox hb; have n0_ := A0_.mk (bSp (by repeat (first | (with_reducible first | exact HB.out | apply bAl | apply pBn | apply bD1) | exact HB.out)) hb); have n1_ := A0_.mk (hbox); have n2_ := A0_.mk ((by rw [hg]; exact (bSz (by repeat (first | (with_reducible first | exact HB.out | apply bAl | apply pBn | apply bD1) | exact HB.out))) : w.heap.size ≤ gb256)); have n3_ := A0_.mk ((by rw [hg]; exact (bSz (by repeat (first | (with_reducible first | exact HB.out | apply bAl | apply pBn | apply bD1) | exact HB.out))) : w.heap.size ≤ gb256)); clear HB; have HB := n0_; have BK256 := n1_; have GW256 := n2_; have GE256 := n3_; clear n0_ n1_ n2_ n3_; clear hb hbox hg) | ((with_reducible refine gate_dst (N := 5) rfl ?_); refine box_event ?hg (N := 5) ?hd (cs := #[.int .i64 a1_0, .int .i64 a1_1]) (t := 23) ?hr ?_; (case hd => rfl); (case hg => rfl); (case hr => first | (go_simp; done) | (go_simp; rfl)); intro gb257 hg w7 hbox hb; have n0_ := A0_.mk (kBe (g := gb256) (o := .cells #[.int .i64 a0_0, .int .i64 a0_1] 23 (0, 0)) (by (with_reducible repeat (first | refine kDn ?_ _ | refine kDr ?_ | refine kAl ?_ _)); exact BK256.out) hb); have n1_ := A0_.mk (bSp (by repeat (first | (with_reducible first | exact HB.out | apply bAl | apply pBn | apply bD1 | refine bSt ?_ GE256.out) | exact HB.out)) hb); have n2_ := A0_.mk (hbox); have n3_ := A0_.mk ((by rw [hg]; exact (bSz (by repeat (first | (with_reducible first | exact HB.out | apply bAl | apply pBn | apply bD1 | refine bSt ?_ GE256.out) | exact HB.out))) : w.heap.size ≤ gb257)); have n4_ := A0_.mk ((by rw [hg]; exact (bSz (by repeat (first | (with_reducible first | exact HB.out | apply bAl | apply pBn | apply bD1 | refine bSt ?_ GE256.out) | exact HB.out))) : w.heap.size ≤ gb257)); have n5_ := A0_.mk ((by rw [hg]; exact Nat.ne_of_lt (blk_lt (g := gb256) (o := .cells #[.int .i64 a0_0, .int .i64 a0_1] 23 (0, 0)) (by (with_reducible repeat (first | refine kDn ?_ _ | refine kDr ?_ | refine kAl ?_ _)); exact BK256.out)) : gb256 ≠ gb257)); have n6_ := A0_.mk ((by rw [hg]; exact Nat.ne_of_gt (blk_lt (g := gb256) (o := .cells #[.int .i64 a0_0, .int .i64 a0_1] 23 (0, 0)) (by (with_reducible repeat (first | refine kDn ?_ _ | refine kDr ?_ | refine kAl ?_ _)); exact BK256.out)) : gb257 ≠ gb256)); clear BK256; clear HB; have BK256 := n0_; have HB := n1_; have BK257 := n2_; have GW257 := n3_; have GE257 := n4_; have NB256_257 := n5_; have NB257_256 := n6_; clear n0_ n1_ n2_ n3_ n4_ n5_ n6_; clear hb hbox hg) | ((with_reducible refine gate_dst (N := 6) rfl ?_); refine box_event ?hg (N := 6) ?hd (cs := #[.int .i64 a2_0, .int .i64 a2_1]) (t := 23) ?hr ?_; (case hd => rfl); (case hg => rfl); (case hr => first | (go_simp; done) | (go_simp; rfl)); intro gb258 hg w8 hbox hb; have n0_ := A0_.mk (kBe (g := gb256) (o := .cells #[.int .i64 a0_0, .int .i64 a0_1] 23 (0, 0)) (by (with_reducible repeat (first | refine kDn ?_ _ | refine kDr ?_ | refine kAl ?_ _)); exact BK256.out) hb); have n1_ := A0_.mk (kBe (g := gb257) (o := .cells #[.int .i64 a1_0, .int .i64 a1_1] 23 (0, 0)) (by (with_reducible repeat (first | refine kDn ?_ _ | refine kDr ?_ | refine kAl ?_ _)); exact BK257.out) hb); have n2_ := A0_.mk (bSp (by repeat (first | (with_reducible first | exact HB.out | apply bAl | apply pBn | apply bD1 | refine bSt ?_ GE256.out | refine bSt ?_ GE257.out) | exact HB.out)) hb); have n3_ := A0_.mk (hbox); have n4_ := A0_.mk ((by rw [hg]; exact (bSz (by repeat (first | (with_reducible first | exact HB.out | apply bAl | apply pBn | apply bD1 | refine bSt ?_ GE256.out | refine bSt ?_ GE257.out) | exact HB.out))) : w.heap.size ≤ gb258)); have n5_ := A0_.mk ((by rw [hg]; exact (bSz (by repeat (first | (with_reducible first | exact HB.out | apply bAl | apply pBn | apply bD1 | refine bSt ?_ GE256.out | refine bSt ?_ GE257.out) | exact HB.out))) : w.heap.size ≤ gb258)); have n6_ := A0_.mk ((by rw [hg]; exact Nat.ne_of_lt (blk_lt (g := gb256) (o := .cells #[.int .i64 a0_0, .int .i64 a0_1] 23 (0, 0)) (by (with_reducible repeat (first | refine kDn ?_ _ | refine kDr ?_ | refine kAl ?_ _)); exact BK256.out)) : gb256 ≠ gb258)); have n7_ := A0_.mk ((by rw [hg]; exact Nat.ne_of_gt (blk_lt (g := gb256) (o := .cells #[.int .i64 a0_0, .int .i64 a0_1] 23 (0, 0)) (by (with_reducible repeat (first | refine kDn ?_ _ | refine kDr ?_ | refine kAl ?_ _)); exact BK256.out)) : gb258 ≠ gb256)); have n8_ := A0_.mk ((by rw [hg]; exact Nat.ne_of_lt (blk_lt (g := gb257) (o := .cells #[.int .i64 a1_0, .int .i64 a1_1] 23 (0, 0)) (by (with_reducible repeat (first | refine kDn ?_ _ | refine kDr ?_ | refine kAl ?_ _)); exact BK257.out)) : gb257 ≠ gb258)); have n9_ := A0_.mk ((by rw [hg]; exact Nat.ne_of_gt (blk_lt (g := gb257) (o := .cells #[.int .i64 a1_0, .int .i64 a1_1] 23 (0, 0)) (by (with_reducible repeat (first | refine kDn ?_ _ | refine kDr ?_ | refine kAl ?_ _)); exact BK257.out)) : gb258 ≠ gb257)); clear BK256; clear BK257; clear HB; have BK256 := n0_; have BK257 := n1_; have HB := n2_; have BK258 := n3_; have GW258 := n4_; have GE258 := n5_; have NB256_258 := n6_; have NB258_256 := n7_; have NB257_258 := n8_; have NB258_257 := n9_; clear n0_ n1_ n2_ n3_ n4_ n5_ n6_ n7_ n8_ n9_; clear hb hbox hg) | ((with_reducible refine gate_dst (N := 7) rfl ?_); refine box_event ?hg (N := 7) ?hd (cs := #[.int .i64 a3_0, .int .i64 a3_1]) (t := 23) ?hr ?_; (case hd => rfl); (case hg => rfl); (case hr => first | (go_simp; done) | (go_simp; rfl)); intro gb259 hg w9 hbox hb; have n0_ := A0_.mk (kBe (g := gb256) (o := .cells #[.int .i64 a0_0, .int .i64 a0_1] 23 (0, 0)) (by (with_reducible repeat (first | refine kDn ?_ _ | refine kDr ?_ | refine kAl ?_ _)); exact BK256.out) hb); have n1_ := A0_.mk (kBe (g := gb257) (o := .cells #[.int .i64 a1_0, .int .i64 a1_1] 23 (0, 0)) (by (with_reducible repeat (first | refine kDn ?_ _ | refine kDr ?_ | refine kAl ?_ _)); exact BK257.out) hb); have n2_ := A0_.mk (kBe (g := gb258) (o := .cells #[.int .i64 a2_0, .int .i64 a2_1] 23 (0, 0)) (by (with_reducible repeat (first | refine kDn ?_ _ | refine kDr ?_ | refine kAl ?_ _)); exact BK258.out) hb); have n3_ := A0_.mk (bSp (by repeat (first | (with_reducible first | exact HB.out | apply bAl | apply pBn | apply bD1 | refine bSt ?_ GE256.out | refine bSt ?_ GE257.out | refine bSt ?_ GE258.out) | exact HB.out)) hb); have n4_ := A0_.mk (hbox); have n5_ := A0_.mk ((by rw [hg]; exact (bSz (by repeat (first | (with_reducible first | exact HB.out | apply bAl | apply pBn | apply bD1 | refine bSt ?_ GE256.out | refine bSt ?_ GE257.out | refine bSt ?_ GE258.out) | exact HB.out))) : w.heap.size ≤ gb259)); have n6_ := A0_.mk ((by rw [hg]; exact (bSz (by repeat (first | (with_reducible first | exact HB.out | apply bAl | apply pBn | apply bD1 | refine bSt ?_ GE256.out | refine bSt ?_ GE257.out | refine bSt ?_ GE258.out) | exact HB.out))) : w.heap.size ≤ gb259)); have n7_ := A0_.mk ((by rw [hg]; exact Nat.ne_of_lt (blk_lt (g := gb256) (o := .cells #[.int .i64 a0_0, .int .i64 a0_1] 23 (0, 0)) (by (with_reducible repeat (first | refine kDn ?_ _ | refine kDr ?_ | refine kAl ?_ _)); exact BK256.out)) : gb256 ≠ gb259)); have n8_ := A0_.mk ((by rw [hg]; exact Nat.ne_of_gt (blk_lt (g := gb256) (o := .cells #[.int .i64 a0_0, .int .i64 a0_1] 23 (0, 0)) (by (with_reducible repeat (first | refine kDn ?_ _ | refine kDr ?_ | refine kAl ?_ _)); exact BK256.out)) : gb259 ≠ gb256)); have n9_ := A0_.mk ((by rw [hg]; exact Nat.ne_of_lt (blk_lt (g := gb257) (o := .cells #[.int .i64 a1_0, .int .i64 a1_1] 23 (0, 0)) (by (with_reducible repeat (first | refine kDn ?_ _ | refine kDr ?_ | refine kAl ?_ _)); exact BK257.out)) : gb257 ≠ gb259)); have n10_ := A0_.mk ((by rw [hg]; exact Nat.ne_of_gt (blk_lt (g := gb257) (o := .cells #[.int .i64 a1_0, .int .i64 a1_1] 23 (0, 0)) (by (with_reducible repeat (first | refine kDn ?_ _ | refine kDr ?_ | refine kAl ?_ _)); exact BK257.out)) : gb259 ≠ gb257)); have n11_ := A0_.mk ((by rw [hg]; exact Nat.ne_of_lt (blk_lt (g := gb258) (o := .cells #[.int .i64 a2_0, .int .i64 a2_1] 23 (0, 0)) (by (with_reducible repeat (first | refine kDn ?_ _ | refine kDr ?_ | refine kAl ?_ _)); exact BK258.out)) : gb258 ≠ gb259)); have n12_ := A0_.mk ((by rw [hg]; exact Nat.ne_of_gt (blk_lt (g := gb258) (o := .cells #[.int .i64 a2_0, .int .i64 a2_1] 23 (0, 0)) (by (with_reducible repeat (first | refine kDn ?_ _ | refine kDr ?_ | refine kAl ?_ _)); exact BK258.out)) : gb259 ≠ gb258)); clear BK256; clear BK257; clear BK258; clear HB; have BK256 := n0_; have BK257 := n1_; have BK258 := n2_; have HB := n3_; have BK259 := n4_; have GW259 := n5_; have GE259 := n6_; have NB256_259 := n7_; have NB259_256 := n8_; have NB257_259 := n9_; have NB259_257 := n10_; have NB258_259 := n11_; have NB259_258 := n12_; clear n0_ n1_ n2_ n3_ n4_ n5_ n6_ n7_ n8_ n9_ n10_ n11_ n12_; clear hb hbox hg))
 (try simp only [Act.put, lsT, lcZ, lcS])
 go_cut [30] (fun v30 wc => ∃ (kq : Nat) (x30_4 : Bool), v30 = .bool x30_4 ∧ A0_ (windhoverref09_Common.j0 kq x30_4 a0_0 a0_1 a1_0 a1_1 a2_0 a2_1 a3_0 a3_1 = some r) ∧ A0_ (kq ≤ k) ∧ A0_ (wc.heap[gb256]? = some (.cells #[.int .i64 a0_0, .int .i64 a0_1] 23 (0, 0))) ∧ A0_ (wc.heap[gb257]? = some (.cells #[.int .i64 a1_0, .int .i64 a1_1] 23 (0, 0))) ∧ A0_ (wc.heap[gb258]? = some (.cells #[.int .i64 a2_0, .int .i64 a2_1] 23 (0, 0))) ∧ A0_ (wc.heap[gb259]? = some (.cells #[.int .i64 a3_0, .int .i64 a3_1] 23 (0, 0))) ∧ A0_ (Below w.heap.size w wc))
 case first =>
  have H := HC5.out
  clear HC5
  replace H := Option.bind_eq_some_iff.mp H
  obtain ⟨t260, A100, H⟩ := H
  replace H : (if t260 = true then (windhoverref09_Common.j0 k true a0_0 a0_1 a1_0 a1_1 a2_0 a2_1 a3_0 a3_1) else ((windhoverref09_On.f k a0_0 a0_1 a1_0 a1_1 a3_0 a3_1).bind fun t261 => (if t261 = true then (windhoverref09_Common.j0 k true a0_0 a0_1 a1_0 a1_1 a2_0 a2_1 a3_0 a3_1) else ((windhoverref09_On.f k a2_0 a2_1 a3_0 a3_1 a0_0 a0_1).bind fun t262 => (if t262 = true then (windhoverref09_Common.j0 k true a0_0 a0_1 a1_0 a1_1 a2_0 a2_1 a3_0 a3_1) else ((windhoverref09_On.f k a2_0 a2_1 a3_0 a3_1 a1_0 a1_1).bind fun t263 => (windhoverref09_Common.j0 k t263 a0_0 a0_1 a1_0 a1_1 a2_0 a2_1 a3_0 a3_1))))))) = some r := H
  have A10 := A0_.mk A100
  clear A100
  by_cases c11 : t260 = true
  ·subst c11
   have H1 : (windhoverref09_Common.j0 k true a0_0 a0_1 a1_0 a1_1 a2_0 a2_1 a3_0 a3_1) = some r := by rw [if_pos rfl] at H; exact H
   clear H
   have H := H1
   clear H1
   have H' := A0_.mk H
   clear H
   have hnb12 := NB256_257.out
   have hnc12 := NB257_256.out
   have hnb13 := NB256_258.out
   have hnc13 := NB258_256.out
   have hnb14 := NB256_259.out
   have hnc14 := NB259_256.out
   have hcz15_0 : w9.cell? ⟨gb256, 0, none⟩ = some (.int .i64 a0_0) := (kCe BK256.out 0).trans rfl
   have hcz15_1 : w9.cell? ⟨gb256, 1, none⟩ = some (.int .i64 a0_1) := (kCe BK256.out 1).trans rfl
   have hfz15_0 := kFr BK256.out 0
   have hfz15_1 := kFr BK256.out 1
   have hnb16 := NB257_258.out
   have hnc16 := NB258_257.out
   have hnb17 := NB257_259.out
   have hnc17 := NB259_257.out
   have hcz18_0 : w9.cell? ⟨gb257, 0, none⟩ = some (.int .i64 a1_0) := (kCe BK257.out 0).trans rfl
   have hcz18_1 : w9.cell? ⟨gb257, 1, none⟩ = some (.int .i64 a1_1) := (kCe BK257.out 1).trans rfl
   have hfz18_0 := kFr BK257.out 0
   have hfz18_1 := kFr BK257.out 1
   have hnb19 := NB258_259.out
   have hnc19 := NB259_258.out
   have hcz20_0 : w9.cell? ⟨gb258, 0, none⟩ = some (.int .i64 a2_0) := (kCe BK258.out 0).trans rfl
   have hcz20_1 : w9.cell? ⟨gb258, 1, none⟩ = some (.int .i64 a2_1) := (kCe BK258.out 1).trans rfl
   have hfz20_0 := kFr BK258.out 0
   have hfz20_1 := kFr BK258.out 1
   go_wp2_with (first | ((with_reducible refine gate_callee (f := 54) rfl ?_); refine goesL_ (some 12) rfl rfl Try.func54 (by kernel_rfl) rfl #[.agg #[.int .i64 a0_0, .int .i64 a0_1], .agg #[.int .i64 a1_0, .int .i64 a1_1], .agg #[.int .i64 a2_0, .int .i64 a2_1]] rfl (by (try simp only [List.map_toArray, List.map_cons, List.map_nil]); first | done | rfl | (simp only [List.length_drop, List.length_take]; rfl)) ?_; (with_reducible refine (windhoverref09_On.calls k a0_0 a0_1 a1_0 a1_1 a2_0 a2_1 true _ A10.out).mono ?_); rintro e w21 ⟨rfl, hb⟩; refine ⟨_, rfl, ?_⟩; have n0_ := A0_.mk (kBe (g := gb256) (o := .cells #[.int .i64 a0_0, .int .i64 a0_1] 23 (0, 0)) (by (with_reducible repeat (first | refine kDn ?_ _ | refine kDr ?_ | refine kAl ?_ _)); exact BK256.out) hb); have n1_ := A0_.mk (kBe (g := gb257) (o := .cells #[.int .i64 a1_0, .int .i64 a1_1] 23 (0, 0)) (by (with_reducible repeat (first | refine kDn ?_ _ | refine kDr ?_ | refine kAl ?_ _)); exact BK257.out) hb); have n2_ := A0_.mk (kBe (g := gb258) (o := .cells #[.int .i64 a2_0, .int .i64 a2_1] 23 (0, 0)) (by (with_reducible repeat (first | refine kDn ?_ _ | refine kDr ?_ | refine kAl ?_ _)); exact BK258.out) hb); have n3_ := A0_.mk (kBe (g := gb259) (o := .cells #[.int .i64 a3_0, .int .i64 a3_1] 23 (0, 0)) (by (with_reducible repeat (first | refine kDn ?_ _ | refine kDr ?_ | refine kAl ?_ _)); exact BK259.out) hb); have n4_ := A0_.mk (bSp (by repeat (first | (with_reducible first | exact HB.out | apply bAl | apply pBn | apply bD1 | refine bSt ?_ GE256.out | refine bSt ?_ GE257.out | refine bSt ?_ GE258.out | refine bSt ?_ GE259.out) | exact HB.out)) hb); clear BK256; clear BK257; clear BK258; clear BK259; clear HB; have BK256 := n0_; have BK257 := n1_; have BK258 := n2_; have BK259 := n3_; have HB := n4_; clear n0_ n1_ n2_ n3_ n4_; (try clear hb); (try clear hb2); (try clear hk); (try clear hi)))
   go_meet
   case rel => exact ⟨_, (true), (by first | rfl | (simp; done) | (simp [*]; done)), H', ⟨by first | omega | exact Nat.le_refl _⟩, ⟨by (with_reducible repeat (first | refine kDn ?_ _ | refine kDr ?_ | refine kAl ?_ _)); exact BK256.out⟩, ⟨by (with_reducible repeat (first | refine kDn ?_ _ | refine kDr ?_ | refine kAl ?_ _)); exact BK257.out⟩, ⟨by (with_reducible repeat (first | refine kDn ?_ _ | refine kDr ?_ | refine kAl ?_ _)); exact BK258.out⟩, ⟨by (with_reducible repeat (first | refine kDn ?_ _ | refine kDr ?_ | refine kAl ?_ _)); exact BK259.out⟩, ⟨by repeat (first | (with_reducible first | exact HB.out | apply bAl | apply pBn | apply bD1 | refine bSt ?_ GE256.out | refine bSt ?_ GE257.out | refine bSt ?_ GE258.out | refine bSt ?_ GE259.out) | exact HB.out)⟩⟩
  ·replace c11 := Bool.eq_false_iff.mpr c11
   subst c11
   have H1 : ((windhoverref09_On.f k a0_0 a0_1 a1_0 a1_1 a3_0 a3_1).bind fun t261 => (if t261 = true then (windhoverref09_Common.j0 k true a0_0 a0_1 a1_0 a1_1 a2_0 a2_1 a3_0 a3_1) else ((windhoverref09_On.f k a2_0 a2_1 a3_0 a3_1 a0_0 a0_1).bind fun t262 => (if t262 = true then (windhoverref09_Common.j0 k true a0_0 a0_1 a1_0 a1_1 a2_0 a2_1 a3_0 a3_1) else ((windhoverref09_On.f k a2_0 a2_1 a3_0 a3_1 a1_0 a1_1).bind fun t263 => (windhoverref09_Common.j0 k t263 a0_0 a0_1 a1_0 a1_1 a2_0 a2_1 a3_0 a3_1)))))) = some r := by rw [if_neg (show ¬ (false = true) by decide)] at H; exact H
   clear H
   have H := H1
   clear H1
   replace H := Option.bind_eq_some_iff.mp H
   obtain ⟨t261, A220, H⟩ := H
   replace H : (if t261 = true then (windhoverref09_Common.j0 k true a0_0 a0_1 a1_0 a1_1 a2_0 a2_1 a3_0 a3_1) else ((windhoverref09_On.f k a2_0 a2_1 a3_0 a3_1 a0_0 a0_1).bind fun t262 => (if t262 = true then (windhoverref09_Common.j0 k true a0_0 a0_1 a1_0 a1_1 a2_0 a2_1 a3_0 a3_1) else ((windhoverref09_On.f k a2_0 a2_1 a3_0 a3_1 a1_0 a1_1).bind fun t263 => (windhoverref09_Common.j0 k t263 a0_0 a0_1 a1_0 a1_1 a2_0 a2_1 a3_0 a3_1))))) = some r := H
   have A22 := A0_.mk A220
   clear A220
   by_cases c23 : t261 = true
   ·subst c23
    have H1 : (windhoverref09_Common.j0 k true a0_0 a0_1 a1_0 a1_1 a2_0 a2_1 a3_0 a3_1) = some r := by rw [if_pos rfl] at H; exact H
    clear H
    have H := H1
    clear H1
    have H' := A0_.mk H
    clear H
    have hnb24 := NB256_257.out
    have hnc24 := NB257_256.out
    have hnb25 := NB256_258.out
    have hnc25 := NB258_256.out
    have hnb26 := NB256_259.out
    have hnc26 := NB259_256.out
    have hcz27_0 : w9.cell? ⟨gb256, 0, none⟩ = some (.int .i64 a0_0) := (kCe BK256.out 0).trans rfl
    have hcz27_1 : w9.cell? ⟨gb256, 1, none⟩ = some (.int .i64 a0_1) := (kCe BK256.out 1).trans rfl
    have hfz27_0 := kFr BK256.out 0
    have hfz27_1 := kFr BK256.out 1
    have hnb28 := NB257_258.out
    have hnc28 := NB258_257.out
    have hnb29 := NB257_259.out
    have hnc29 := NB259_257.out
    have hcz30_0 : w9.cell? ⟨gb257, 0, none⟩ = some (.int .i64 a1_0) := (kCe BK257.out 0).trans rfl
    have hcz30_1 : w9.cell? ⟨gb257, 1, none⟩ = some (.int .i64 a1_1) := (kCe BK257.out 1).trans rfl
    have hfz30_0 := kFr BK257.out 0
    have hfz30_1 := kFr BK257.out 1
    have hnb31 := NB258_259.out
    have hnc31 := NB259_258.out
    have hcz32_0 : w9.cell? ⟨gb258, 0, none⟩ = some (.int .i64 a2_0) := (kCe BK258.out 0).trans rfl
    have hcz32_1 : w9.cell? ⟨gb258, 1, none⟩ = some (.int .i64 a2_1) := (kCe BK258.out 1).trans rfl
    have hfz32_0 := kFr BK258.out 0
    have hfz32_1 := kFr BK258.out 1
    go_wp2_with (first | ((with_reducible refine gate_callee (f := 54) rfl ?_); refine goesL_ (some 12) rfl rfl Try.func54 (by kernel_rfl) rfl #[.agg #[.int .i64 a0_0, .int .i64 a0_1], .agg #[.int .i64 a1_0, .int .i64 a1_1], .agg #[.int .i64 a2_0, .int .i64 a2_1]] rfl (by (try simp only [List.map_toArray, List.map_cons, List.map_nil]); first | done | rfl | (simp only [List.length_drop, List.length_take]; rfl)) ?_; (with_reducible refine (windhoverref09_On.calls k a0_0 a0_1 a1_0 a1_1 a2_0 a2_1 false _ A10.out).mono ?_); rintro e w33 ⟨rfl, hb⟩; refine ⟨_, rfl, ?_⟩; have n0_ := A0_.mk (kBe (g := gb256) (o := .cells #[.int .i64 a0_0, .int .i64 a0_1] 23 (0, 0)) (by (with_reducible repeat (first | refine kDn ?_ _ | refine kDr ?_ | refine kAl ?_ _)); exact BK256.out) hb); have n1_ := A0_.mk (kBe (g := gb257) (o := .cells #[.int .i64 a1_0, .int .i64 a1_1] 23 (0, 0)) (by (with_reducible repeat (first | refine kDn ?_ _ | refine kDr ?_ | refine kAl ?_ _)); exact BK257.out) hb); have n2_ := A0_.mk (kBe (g := gb258) (o := .cells #[.int .i64 a2_0, .int .i64 a2_1] 23 (0, 0)) (by (with_reducible repeat (first | refine kDn ?_ _ | refine kDr ?_ | refine kAl ?_ _)); exact BK258.out) hb); have n3_ := A0_.mk (kBe (g := gb259) (o := .cells #[.int .i64 a3_0, .int .i64 a3_1] 23 (0, 0)) (by (with_reducible repeat (first | refine kDn ?_ _ | refine kDr ?_ | refine kAl ?_ _)); exact BK259.out) hb); have n4_ := A0_.mk (bSp (by repeat (first | (with_reducible first | exact HB.out | apply bAl | apply pBn | apply bD1 | refine bSt ?_ GE256.out | refine bSt ?_ GE257.out | refine bSt ?_ GE258.out | refine bSt ?_ GE259.out) | exact HB.out)) hb); clear BK256; clear BK257; clear BK258; clear BK259; clear HB; have BK256 := n0_; have BK257 := n1_; have BK258 := n2_; have BK259 := n3_; have HB := n4_; clear n0_ n1_ n2_ n3_ n4_; (try clear hb); (try clear hb2); (try clear hk); (try clear hi); have hcz34_0 : w33.cell? ⟨gb256, 0, none⟩ = some (.int .i64 a0_0) := (kCe BK256.out 0).trans rfl; have hcz34_1 : w33.cell? ⟨gb256, 1, none⟩ = some (.int .i64 a0_1) := (kCe BK256.out 1).trans rfl; have hfz34_0 := kFr BK256.out 0; have hfz34_1 := kFr BK256.out 1; have hcz35_0 : w33.cell? ⟨gb257, 0, none⟩ = some (.int .i64 a1_0) := (kCe BK257.out 0).trans rfl; have hcz35_1 : w33.cell? ⟨gb257, 1, none⟩ = some (.int .i64 a1_1) := (kCe BK257.out 1).trans rfl; have hfz35_0 := kFr BK257.out 0; have hfz35_1 := kFr BK257.out 1; have hcz36_0 : w33.cell? ⟨gb259, 0, none⟩ = some (.int .i64 a3_0) := (kCe BK259.out 0).trans rfl; have hcz36_1 : w33.cell? ⟨gb259, 1, none⟩ = some (.int .i64 a3_1) := (kCe BK259.out 1).trans rfl; have hfz36_0 := kFr BK259.out 0; have hfz36_1 := kFr BK259.out 1) | (go_at_call 54; (with_reducible refine (windhoverref09_On.calls k a0_0 a0_1 a1_0 a1_1 a3_0 a3_1 true _ A22.out).mono ?_); rintro e w37 ⟨rfl, hb⟩; have n0_ := A0_.mk (kBe (g := gb256) (o := .cells #[.int .i64 a0_0, .int .i64 a0_1] 23 (0, 0)) (by (with_reducible repeat (first | refine kDn ?_ _ | refine kDr ?_ | refine kAl ?_ _)); exact BK256.out) hb); have n1_ := A0_.mk (kBe (g := gb257) (o := .cells #[.int .i64 a1_0, .int .i64 a1_1] 23 (0, 0)) (by (with_reducible repeat (first | refine kDn ?_ _ | refine kDr ?_ | refine kAl ?_ _)); exact BK257.out) hb); have n2_ := A0_.mk (kBe (g := gb258) (o := .cells #[.int .i64 a2_0, .int .i64 a2_1] 23 (0, 0)) (by (with_reducible repeat (first | refine kDn ?_ _ | refine kDr ?_ | refine kAl ?_ _)); exact BK258.out) hb); have n3_ := A0_.mk (kBe (g := gb259) (o := .cells #[.int .i64 a3_0, .int .i64 a3_1] 23 (0, 0)) (by (with_reducible repeat (first | refine kDn ?_ _ | refine kDr ?_ | refine kAl ?_ _)); exact BK259.out) hb); have n4_ := A0_.mk (bSp (by repeat (first | (with_reducible first | exact HB.out | apply bAl | apply pBn | apply bD1 | refine bSt ?_ GE256.out | refine bSt ?_ GE257.out | refine bSt ?_ GE258.out | refine bSt ?_ GE259.out) | exact HB.out)) hb); clear BK256; clear BK257; clear BK258; clear BK259; clear HB; have BK256 := n0_; have BK257 := n1_; have BK258 := n2_; have BK259 := n3_; have HB := n4_; clear n0_ n1_ n2_ n3_ n4_; (try clear hb); (try clear hb2); (try clear hk); (try clear hi)))
    go_meet
    case rel => exact ⟨_, (true), (by first | rfl | (simp; done) | (simp [*]; done)), H', ⟨by first | omega | exact Nat.le_refl _⟩, ⟨by (with_reducible repeat (first | refine kDn ?_ _ | refine kDr ?_ | refine kAl ?_ _)); exact BK256.out⟩, ⟨by (with_reducible repeat (first | refine kDn ?_ _ | refine kDr ?_ | refine kAl ?_ _)); exact BK257.out⟩, ⟨by (with_reducible repeat (first | refine kDn ?_ _ | refine kDr ?_ | refine kAl ?_ _)); exact BK258.out⟩, ⟨by (with_reducible repeat (first | refine kDn ?_ _ | refine kDr ?_ | refine kAl ?_ _)); exact BK259.out⟩, ⟨by repeat (first | (with_reducible first | exact HB.out | apply bAl | apply pBn | apply bD1 | refine bSt ?_ GE256.out | refine bSt ?_ GE257.out | refine bSt ?_ GE258.out | refine bSt ?_ GE259.out) | exact HB.out)⟩⟩
   ·replace c23 := Bool.eq_false_iff.mpr c23
    subst c23
    have H1 : ((windhoverref09_On.f k a2_0 a2_1 a3_0 a3_1 a0_0 a0_1).bind fun t262 => (if t262 = true then (windhoverref09_Common.j0 k true a0_0 a0_1 a1_0 a1_1 a2_0 a2_1 a3_0 a3_1) else ((windhoverref09_On.f k a2_0 a2_1 a3_0 a3_1 a1_0 a1_1).bind fun t263 => (windhoverref09_Common.j0 k t263 a0_0 a0_1 a1_0 a1_1 a2_0 a2_1 a3_0 a3_1)))) = some r := by rw [if_neg (show ¬ (false = true) by decide)] at H; exact H
    clear H
    have H := H1
    clear H1
    replace H := Option.bind_eq_some_iff.mp H
    obtain ⟨t262, A380, H⟩ := H
    replace H : (if t262 = true then (windhoverref09_Common.j0 k true a0_0 a0_1 a1_0 a1_1 a2_0 a2_1 a3_0 a3_1) else ((windhoverref09_On.f k a2_0 a2_1 a3_0 a3_1 a1_0 a1_1).bind fun t263 => (windhoverref09_Common.j0 k t263 a0_0 a0_1 a1_0 a1_1 a2_0 a2_1 a3_0 a3_1))) = some r := H
    have A38 := A0_.mk A380
    clear A380
    by_cases c39 : t262 = true
    ·subst c39
     have H1 : (windhoverref09_Common.j0 k true a0_0 a0_1 a1_0 a1_1 a2_0 a2_1 a3_0 a3_1) = some r := by rw [if_pos rfl] at H; exact H
     clear H
     have H := H1
     clear H1
     have H' := A0_.mk H
     clear H
     have hnb40 := NB256_257.out
     have hnc40 := NB257_256.out
     have hnb41 := NB256_258.out
     have hnc41 := NB258_256.out
     have hnb42 := NB256_259.out
     have hnc42 := NB259_256.out
     have hcz43_0 : w9.cell? ⟨gb256, 0, none⟩ = some (.int .i64 a0_0) := (kCe BK256.out 0).trans rfl
     have hcz43_1 : w9.cell? ⟨gb256, 1, none⟩ = some (.int .i64 a0_1) := (kCe BK256.out 1).trans rfl
     have hfz43_0 := kFr BK256.out 0
     have hfz43_1 := kFr BK256.out 1
     have hnb44 := NB257_258.out
     have hnc44 := NB258_257.out
     have hnb45 := NB257_259.out
     have hnc45 := NB259_257.out
     have hcz46_0 : w9.cell? ⟨gb257, 0, none⟩ = some (.int .i64 a1_0) := (kCe BK257.out 0).trans rfl
     have hcz46_1 : w9.cell? ⟨gb257, 1, none⟩ = some (.int .i64 a1_1) := (kCe BK257.out 1).trans rfl
     have hfz46_0 := kFr BK257.out 0
     have hfz46_1 := kFr BK257.out 1
     have hnb47 := NB258_259.out
     have hnc47 := NB259_258.out
     have hcz48_0 : w9.cell? ⟨gb258, 0, none⟩ = some (.int .i64 a2_0) := (kCe BK258.out 0).trans rfl
     have hcz48_1 : w9.cell? ⟨gb258, 1, none⟩ = some (.int .i64 a2_1) := (kCe BK258.out 1).trans rfl
     have hfz48_0 := kFr BK258.out 0
     have hfz48_1 := kFr BK258.out 1
     go_wp2_with (first | ((with_reducible refine gate_callee (f := 54) rfl ?_); refine goesL_ (some 12) rfl rfl Try.func54 (by kernel_rfl) rfl #[.agg #[.int .i64 a0_0, .int .i64 a0_1], .agg #[.int .i64 a1_0, .int .i64 a1_1], .agg #[.int .i64 a2_0, .int .i64 a2_1]] rfl (by (try simp only [List.map_toArray, List.map_cons, List.map_nil]); first | done | rfl | (simp only [List.length_drop, List.length_take]; rfl)) ?_; (with_reducible refine (windhoverref09_On.calls k a0_0 a0_1 a1_0 a1_1 a2_0 a2_1 false _ A10.out).mono ?_); rintro e w49 ⟨rfl, hb⟩; refine ⟨_, rfl, ?_⟩; have n0_ := A0_.mk (kBe (g := gb256) (o := .cells #[.int .i64 a0_0, .int .i64 a0_1] 23 (0, 0)) (by (with_reducible repeat (first | refine kDn ?_ _ | refine kDr ?_ | refine kAl ?_ _)); exact BK256.out) hb); have n1_ := A0_.mk (kBe (g := gb257) (o := .cells #[.int .i64 a1_0, .int .i64 a1_1] 23 (0, 0)) (by (with_reducible repeat (first | refine kDn ?_ _ | refine kDr ?_ | refine kAl ?_ _)); exact BK257.out) hb); have n2_ := A0_.mk (kBe (g := gb258) (o := .cells #[.int .i64 a2_0, .int .i64 a2_1] 23 (0, 0)) (by (with_reducible repeat (first | refine kDn ?_ _ | refine kDr ?_ | refine kAl ?_ _)); exact BK258.out) hb); have n3_ := A0_.mk (kBe (g := gb259) (o := .cells #[.int .i64 a3_0, .int .i64 a3_1] 23 (0, 0)) (by (with_reducible repeat (first | refine kDn ?_ _ | refine kDr ?_ | refine kAl ?_ _)); exact BK259.out) hb); have n4_ := A0_.mk (bSp (by repeat (first | (with_reducible first | exact HB.out | apply bAl | apply pBn | apply bD1 | refine bSt ?_ GE256.out | refine bSt ?_ GE257.out | refine bSt ?_ GE258.out | refine bSt ?_ GE259.out) | exact HB.out)) hb); clear BK256; clear BK257; clear BK258; clear BK259; clear HB; have BK256 := n0_; have BK257 := n1_; have BK258 := n2_; have BK259 := n3_; have HB := n4_; clear n0_ n1_ n2_ n3_ n4_; (try clear hb); (try clear hb2); (try clear hk); (try clear hi); have hcz50_0 : w49.cell? ⟨gb256, 0, none⟩ = some (.int .i64 a0_0) := (kCe BK256.out 0).trans rfl; have hcz50_1 : w49.cell? ⟨gb256, 1, none⟩ = some (.int .i64 a0_1) := (kCe BK256.out 1).trans rfl; have hfz50_0 := kFr BK256.out 0; have hfz50_1 := kFr BK256.out 1; have hcz51_0 : w49.cell? ⟨gb257, 0, none⟩ = some (.int .i64 a1_0) := (kCe BK257.out 0).trans rfl; have hcz51_1 : w49.cell? ⟨gb257, 1, none⟩ = some (.int .i64 a1_1) := (kCe BK257.out 1).trans rfl; have hfz51_0 := kFr BK257.out 0; have hfz51_1 := kFr BK257.out 1; have hcz52_0 : w49.cell? ⟨gb259, 0, none⟩ = some (.int .i64 a3_0) := (kCe BK259.out 0).trans rfl; have hcz52_1 : w49.cell? ⟨gb259, 1, none⟩ = some (.int .i64 a3_1) := (kCe BK259.out 1).trans rfl; have hfz52_0 := kFr BK259.out 0; have hfz52_1 := kFr BK259.out 1) | (go_at_call 54; (with_reducible refine (windhoverref09_On.calls k a0_0 a0_1 a1_0 a1_1 a3_0 a3_1 false _ A22.out).mono ?_); rintro e w53 ⟨rfl, hb⟩; have n0_ := A0_.mk (kBe (g := gb256) (o := .cells #[.int .i64 a0_0, .int .i64 a0_1] 23 (0, 0)) (by (with_reducible repeat (first | refine kDn ?_ _ | refine kDr ?_ | refine kAl ?_ _)); exact BK256.out) hb); have n1_ := A0_.mk (kBe (g := gb257) (o := .cells #[.int .i64 a1_0, .int .i64 a1_1] 23 (0, 0)) (by (with_reducible repeat (first | refine kDn ?_ _ | refine kDr ?_ | refine kAl ?_ _)); exact BK257.out) hb); have n2_ := A0_.mk (kBe (g := gb258) (o := .cells #[.int .i64 a2_0, .int .i64 a2_1] 23 (0, 0)) (by (with_reducible repeat (first | refine kDn ?_ _ | refine kDr ?_ | refine kAl ?_ _)); exact BK258.out) hb); have n3_ := A0_.mk (kBe (g := gb259) (o := .cells #[.int .i64 a3_0, .int .i64 a3_1] 23 (0, 0)) (by (with_reducible repeat (first | refine kDn ?_ _ | refine kDr ?_ | refine kAl ?_ _)); exact BK259.out) hb); have n4_ := A0_.mk (bSp (by repeat (first | (with_reducible first | exact HB.out | apply bAl | apply pBn | apply bD1 | refine bSt ?_ GE256.out | refine bSt ?_ GE257.out | refine bSt ?_ GE258.out | refine bSt ?_ GE259.out) | exact HB.out)) hb); clear BK256; clear BK257; clear BK258; clear BK259; clear HB; have BK256 := n0_; have BK257 := n1_; have BK258 := n2_; have BK259 := n3_; have HB := n4_; clear n0_ n1_ n2_ n3_ n4_; (try clear hb); (try clear hb2); (try clear hk); (try clear hi); have hcz54_0 : w53.cell? ⟨gb258, 0, none⟩ = some (.int .i64 a2_0) := (kCe BK258.out 0).trans rfl; have hcz54_1 : w53.cell? ⟨gb258, 1, none⟩ = some (.int .i64 a2_1) := (kCe BK258.out 1).trans rfl; have hfz54_0 := kFr BK258.out 0; have hfz54_1 := kFr BK258.out 1; have hcz55_0 : w53.cell? ⟨gb259, 0, none⟩ = some (.int .i64 a3_0) := (kCe BK259.out 0).trans rfl; have hcz55_1 : w53.cell? ⟨gb259, 1, none⟩ = some (.int .i64 a3_1) := (kCe BK259.out 1).trans rfl; have hfz55_0 := kFr BK259.out 0; have hfz55_1 := kFr BK259.out 1; have hcz56_0 : w53.cell? ⟨gb256, 0, none⟩ = some (.int .i64 a0_0) := (kCe BK256.out 0).trans rfl; have hcz56_1 : w53.cell? ⟨gb256, 1, none⟩ = some (.int .i64 a0_1) := (kCe BK256.out 1).trans rfl; have hfz56_0 := kFr BK256.out 0; have hfz56_1 := kFr BK256.out 1) | (go_at_call 54; (with_reducible refine (windhoverref09_On.calls k a2_0 a2_1 a3_0 a3_1 a0_0 a0_1 true _ A38.out).mono ?_); rintro e w57 ⟨rfl, hb⟩; have n0_ := A0_.mk (kBe (g := gb256) (o := .cells #[.int .i64 a0_0, .int .i64 a0_1] 23 (0, 0)) (by (with_reducible repeat (first | refine kDn ?_ _ | refine kDr ?_ | refine kAl ?_ _)); exact BK256.out) hb); have n1_ := A0_.mk (kBe (g := gb257) (o := .cells #[.int .i64 a1_0, .int .i64 a1_1] 23 (0, 0)) (by (with_reducible repeat (first | refine kDn ?_ _ | refine kDr ?_ | refine kAl ?_ _)); exact BK257.out) hb); have n2_ := A0_.mk (kBe (g := gb258) (o := .cells #[.int .i64 a2_0, .int .i64 a2_1] 23 (0, 0)) (by (with_reducible repeat (first | refine kDn ?_ _ | refine kDr ?_ | refine kAl ?_ _)); exact BK258.out) hb); have n3_ := A0_.mk (kBe (g := gb259) (o := .cells #[.int .i64 a3_0, .int .i64 a3_1] 23 (0, 0)) (by (with_reducible repeat (first | refine kDn ?_ _ | refine kDr ?_ | refine kAl ?_ _)); exact BK259.out) hb); have n4_ := A0_.mk (bSp (by repeat (first | (with_reducible first | exact HB.out | apply bAl | apply pBn | apply bD1 | refine bSt ?_ GE256.out | refine bSt ?_ GE257.out | refine bSt ?_ GE258.out | refine bSt ?_ GE259.out) | exact HB.out)) hb); clear BK256; clear BK257; clear BK258; clear BK259; clear HB; have BK256 := n0_; have BK257 := n1_; have BK258 := n2_; have BK259 := n3_; have HB := n4_; clear n0_ n1_ n2_ n3_ n4_; (try clear hb); (try clear hb2); (try clear hk); (try clear hi)))
     go_meet
     case rel => exact ⟨_, (true), (by first | rfl | (simp; done) | (simp [*]; done)), H', ⟨by first | omega | exact Nat.le_refl _⟩, ⟨by (with_reducible repeat (first | refine kDn ?_ _ | refine kDr ?_ | refine kAl ?_ _)); exact BK256.out⟩, ⟨by (with_reducible repeat (first | refine kDn ?_ _ | refine kDr ?_ | refine kAl ?_ _)); exact BK257.out⟩, ⟨by (with_reducible repeat (first | refine kDn ?_ _ | refine kDr ?_ | refine kAl ?_ _)); exact BK258.out⟩, ⟨by (with_reducible repeat (first | refine kDn ?_ _ | refine kDr ?_ | refine kAl ?_ _)); exact BK259.out⟩, ⟨by repeat (first | (with_reducible first | exact HB.out | apply bAl | apply pBn | apply bD1 | refine bSt ?_ GE256.out | refine bSt ?_ GE257.out | refine bSt ?_ GE258.out | refine bSt ?_ GE259.out) | exact HB.out)⟩⟩
    ·replace c39 := Bool.eq_false_iff.mpr c39
     subst c39
     have H1 : ((windhoverref09_On.f k a2_0 a2_1 a3_0 a3_1 a1_0 a1_1).bind fun t263 => (windhoverref09_Common.j0 k t263 a0_0 a0_1 a1_0 a1_1 a2_0 a2_1 a3_0 a3_1)) = some r := by rw [if_neg (show ¬ (false = true) by decide)] at H; exact H
     clear H
     have H := H1
     clear H1
     replace H := Option.bind_eq_some_iff.mp H
     obtain ⟨t263, A580, H⟩ := H
     replace H : (windhoverref09_Common.j0 k t263 a0_0 a0_1 a1_0 a1_1 a2_0 a2_1 a3_0 a3_1) = some r := H
     have A58 := A0_.mk A580
     clear A580
     have H' := A0_.mk H
     clear H
     have hnb59 := NB256_257.out
     have hnc59 := NB257_256.out
     have hnb60 := NB256_258.out
     have hnc60 := NB258_256.out
     have hnb61 := NB256_259.out
     have hnc61 := NB259_256.out
     have hcz62_0 : w9.cell? ⟨gb256, 0, none⟩ = some (.int .i64 a0_0) := (kCe BK256.out 0).trans rfl
     have hcz62_1 : w9.cell? ⟨gb256, 1, none⟩ = some (.int .i64 a0_1) := (kCe BK256.out 1).trans rfl
     have hfz62_0 := kFr BK256.out 0
     have hfz62_1 := kFr BK256.out 1
     have hnb63 := NB257_258.out
     have hnc63 := NB258_257.out
     have hnb64 := NB257_259.out
     have hnc64 := NB259_257.out
     have hcz65_0 : w9.cell? ⟨gb257, 0, none⟩ = some (.int .i64 a1_0) := (kCe BK257.out 0).trans rfl
     have hcz65_1 : w9.cell? ⟨gb257, 1, none⟩ = some (.int .i64 a1_1) := (kCe BK257.out 1).trans rfl
     have hfz65_0 := kFr BK257.out 0
     have hfz65_1 := kFr BK257.out 1
     have hnb66 := NB258_259.out
     have hnc66 := NB259_258.out
     have hcz67_0 : w9.cell? ⟨gb258, 0, none⟩ = some (.int .i64 a2_0) := (kCe BK258.out 0).trans rfl
     have hcz67_1 : w9.cell? ⟨gb258, 1, none⟩ = some (.int .i64 a2_1) := (kCe BK258.out 1).trans rfl
     have hfz67_0 := kFr BK258.out 0
     have hfz67_1 := kFr BK258.out 1
     go_wp2_with (first | ((with_reducible refine gate_callee (f := 54) rfl ?_); refine goesL_ (some 12) rfl rfl Try.func54 (by kernel_rfl) rfl #[.agg #[.int .i64 a0_0, .int .i64 a0_1], .agg #[.int .i64 a1_0, .int .i64 a1_1], .agg #[.int .i64 a2_0, .int .i64 a2_1]] rfl (by (try simp only [List.map_toArray, List.map_cons, List.map_nil]); first | done | rfl | (simp only [List.length_drop, List.length_take]; rfl)) ?_; (with_reducible refine (windhoverref09_On.calls k a0_0 a0_1 a1_0 a1_1 a2_0 a2_1 false _ A10.out).mono ?_); rintro e w68 ⟨rfl, hb⟩; refine ⟨_, rfl, ?_⟩; have n0_ := A0_.mk (kBe (g := gb256) (o := .cells #[.int .i64 a0_0, .int .i64 a0_1] 23 (0, 0)) (by (with_reducible repeat (first | refine kDn ?_ _ | refine kDr ?_ | refine kAl ?_ _)); exact BK256.out) hb); have n1_ := A0_.mk (kBe (g := gb257) (o := .cells #[.int .i64 a1_0, .int .i64 a1_1] 23 (0, 0)) (by (with_reducible repeat (first | refine kDn ?_ _ | refine kDr ?_ | refine kAl ?_ _)); exact BK257.out) hb); have n2_ := A0_.mk (kBe (g := gb258) (o := .cells #[.int .i64 a2_0, .int .i64 a2_1] 23 (0, 0)) (by (with_reducible repeat (first | refine kDn ?_ _ | refine kDr ?_ | refine kAl ?_ _)); exact BK258.out) hb); have n3_ := A0_.mk (kBe (g := gb259) (o := .cells #[.int .i64 a3_0, .int .i64 a3_1] 23 (0, 0)) (by (with_reducible repeat (first | refine kDn ?_ _ | refine kDr ?_ | refine kAl ?_ _)); exact BK259.out) hb); have n4_ := A0_.mk (bSp (by repeat (first | (with_reducible first | exact HB.out | apply bAl | apply pBn | apply bD1 | refine bSt ?_ GE256.out | refine bSt ?_ GE257.out | refine bSt ?_ GE258.out | refine bSt ?_ GE259.out) | exact HB.out)) hb); clear BK256; clear BK257; clear BK258; clear BK259; clear HB; have BK256 := n0_; have BK257 := n1_; have BK258 := n2_; have BK259 := n3_; have HB := n4_; clear n0_ n1_ n2_ n3_ n4_; (try clear hb); (try clear hb2); (try clear hk); (try clear hi); have hcz69_0 : w68.cell? ⟨gb256, 0, none⟩ = some (.int .i64 a0_0) := (kCe BK256.out 0).trans rfl; have hcz69_1 : w68.cell? ⟨gb256, 1, none⟩ = some (.int .i64 a0_1) := (kCe BK256.out 1).trans rfl; have hfz69_0 := kFr BK256.out 0; have hfz69_1 := kFr BK256.out 1; have hcz70_0 : w68.cell? ⟨gb257, 0, none⟩ = some (.int .i64 a1_0) := (kCe BK257.out 0).trans rfl; have hcz70_1 : w68.cell? ⟨gb257, 1, none⟩ = some (.int .i64 a1_1) := (kCe BK257.out 1).trans rfl; have hfz70_0 := kFr BK257.out 0; have hfz70_1 := kFr BK257.out 1; have hcz71_0 : w68.cell? ⟨gb259, 0, none⟩ = some (.int .i64 a3_0) := (kCe BK259.out 0).trans rfl; have hcz71_1 : w68.cell? ⟨gb259, 1, none⟩ = some (.int .i64 a3_1) := (kCe BK259.out 1).trans rfl; have hfz71_0 := kFr BK259.out 0; have hfz71_1 := kFr BK259.out 1) | (go_at_call 54; (with_reducible refine (windhoverref09_On.calls k a0_0 a0_1 a1_0 a1_1 a3_0 a3_1 false _ A22.out).mono ?_); rintro e w72 ⟨rfl, hb⟩; have n0_ := A0_.mk (kBe (g := gb256) (o := .cells #[.int .i64 a0_0, .int .i64 a0_1] 23 (0, 0)) (by (with_reducible repeat (first | refine kDn ?_ _ | refine kDr ?_ | refine kAl ?_ _)); exact BK256.out) hb); have n1_ := A0_.mk (kBe (g := gb257) (o := .cells #[.int .i64 a1_0, .int .i64 a1_1] 23 (0, 0)) (by (with_reducible repeat (first | refine kDn ?_ _ | refine kDr ?_ | refine kAl ?_ _)); exact BK257.out) hb); have n2_ := A0_.mk (kBe (g := gb258) (o := .cells #[.int .i64 a2_0, .int .i64 a2_1] 23 (0, 0)) (by (with_reducible repeat (first | refine kDn ?_ _ | refine kDr ?_ | refine kAl ?_ _)); exact BK258.out) hb); have n3_ := A0_.mk (kBe (g := gb259) (o := .cells #[.int .i64 a3_0, .int .i64 a3_1] 23 (0, 0)) (by (with_reducible repeat (first | refine kDn ?_ _ | refine kDr ?_ | refine kAl ?_ _)); exact BK259.out) hb); have n4_ := A0_.mk (bSp (by repeat (first | (with_reducible first | exact HB.out | apply bAl | apply pBn | apply bD1 | refine bSt ?_ GE256.out | refine bSt ?_ GE257.out | refine bSt ?_ GE258.out | refine bSt ?_ GE259.out) | exact HB.out)) hb); clear BK256; clear BK257; clear BK258; clear BK259; clear HB; have BK256 := n0_; have BK257 := n1_; have BK258 := n2_; have BK259 := n3_; have HB := n4_; clear n0_ n1_ n2_ n3_ n4_; (try clear hb); (try clear hb2); (try clear hk); (try clear hi); have hcz73_0 : w72.cell? ⟨gb258, 0, none⟩ = some (.int .i64 a2_0) := (kCe BK258.out 0).trans rfl; have hcz73_1 : w72.cell? ⟨gb258, 1, none⟩ = some (.int .i64 a2_1) := (kCe BK258.out 1).trans rfl; have hfz73_0 := kFr BK258.out 0; have hfz73_1 := kFr BK258.out 1; have hcz74_0 : w72.cell? ⟨gb259, 0, none⟩ = some (.int .i64 a3_0) := (kCe BK259.out 0).trans rfl; have hcz74_1 : w72.cell? ⟨gb259, 1, none⟩ = some (.int .i64 a3_1) := (kCe BK259.out 1).trans rfl; have hfz74_0 := kFr BK259.out 0; have hfz74_1 := kFr BK259.out 1; have hcz75_0 : w72.cell? ⟨gb256, 0, none⟩ = some (.int .i64 a0_0) := (kCe BK256.out 0).trans rfl; have hcz75_1 : w72.cell? ⟨gb256, 1, none⟩ = some (.int .i64 a0_1) := (kCe BK256.out 1).trans rfl; have hfz75_0 := kFr BK256.out 0; have hfz75_1 := kFr BK256.out 1) | (go_at_call 54; (with_reducible refine (windhoverref09_On.calls k a2_0 a2_1 a3_0 a3_1 a0_0 a0_1 false _ A38.out).mono ?_); rintro e w76 ⟨rfl, hb⟩; have n0_ := A0_.mk (kBe (g := gb256) (o := .cells #[.int .i64 a0_0, .int .i64 a0_1] 23 (0, 0)) (by (with_reducible repeat (first | refine kDn ?_ _ | refine kDr ?_ | refine kAl ?_ _)); exact BK256.out) hb); have n1_ := A0_.mk (kBe (g := gb257) (o := .cells #[.int .i64 a1_0, .int .i64 a1_1] 23 (0, 0)) (by (with_reducible repeat (first | refine kDn ?_ _ | refine kDr ?_ | refine kAl ?_ _)); exact BK257.out) hb); have n2_ := A0_.mk (kBe (g := gb258) (o := .cells #[.int .i64 a2_0, .int .i64 a2_1] 23 (0, 0)) (by (with_reducible repeat (first | refine kDn ?_ _ | refine kDr ?_ | refine kAl ?_ _)); exact BK258.out) hb); have n3_ := A0_.mk (kBe (g := gb259) (o := .cells #[.int .i64 a3_0, .int .i64 a3_1] 23 (0, 0)) (by (with_reducible repeat (first | refine kDn ?_ _ | refine kDr ?_ | refine kAl ?_ _)); exact BK259.out) hb); have n4_ := A0_.mk (bSp (by repeat (first | (with_reducible first | exact HB.out | apply bAl | apply pBn | apply bD1 | refine bSt ?_ GE256.out | refine bSt ?_ GE257.out | refine bSt ?_ GE258.out | refine bSt ?_ GE259.out) | exact HB.out)) hb); clear BK256; clear BK257; clear BK258; clear BK259; clear HB; have BK256 := n0_; have BK257 := n1_; have BK258 := n2_; have BK259 := n3_; have HB := n4_; clear n0_ n1_ n2_ n3_ n4_; (try clear hb); (try clear hb2); (try clear hk); (try clear hi); have hcz77_0 : w76.cell? ⟨gb258, 0, none⟩ = some (.int .i64 a2_0) := (kCe BK258.out 0).trans rfl; have hcz77_1 : w76.cell? ⟨gb258, 1, none⟩ = some (.int .i64 a2_1) := (kCe BK258.out 1).trans rfl; have hfz77_0 := kFr BK258.out 0; have hfz77_1 := kFr BK258.out 1; have hcz78_0 : w76.cell? ⟨gb259, 0, none⟩ = some (.int .i64 a3_0) := (kCe BK259.out 0).trans rfl; have hcz78_1 : w76.cell? ⟨gb259, 1, none⟩ = some (.int .i64 a3_1) := (kCe BK259.out 1).trans rfl; have hfz78_0 := kFr BK259.out 0; have hfz78_1 := kFr BK259.out 1; have hcz79_0 : w76.cell? ⟨gb257, 0, none⟩ = some (.int .i64 a1_0) := (kCe BK257.out 0).trans rfl; have hcz79_1 : w76.cell? ⟨gb257, 1, none⟩ = some (.int .i64 a1_1) := (kCe BK257.out 1).trans rfl; have hfz79_0 := kFr BK257.out 0; have hfz79_1 := kFr BK257.out 1) | (go_at_call 54; (with_reducible refine (windhoverref09_On.calls k a2_0 a2_1 a3_0 a3_1 a1_0 a1_1 t263 _ A58.out).mono ?_); rintro e w80 ⟨rfl, hb⟩; have n0_ := A0_.mk (kBe (g := gb256) (o := .cells #[.int .i64 a0_0, .int .i64 a0_1] 23 (0, 0)) (by (with_reducible repeat (first | refine kDn ?_ _ | refine kDr ?_ | refine kAl ?_ _)); exact BK256.out) hb); have n1_ := A0_.mk (kBe (g := gb257) (o := .cells #[.int .i64 a1_0, .int .i64 a1_1] 23 (0, 0)) (by (with_reducible repeat (first | refine kDn ?_ _ | refine kDr ?_ | refine kAl ?_ _)); exact BK257.out) hb); have n2_ := A0_.mk (kBe (g := gb258) (o := .cells #[.int .i64 a2_0, .int .i64 a2_1] 23 (0, 0)) (by (with_reducible repeat (first | refine kDn ?_ _ | refine kDr ?_ | refine kAl ?_ _)); exact BK258.out) hb); have n3_ := A0_.mk (kBe (g := gb259) (o := .cells #[.int .i64 a3_0, .int .i64 a3_1] 23 (0, 0)) (by (with_reducible repeat (first | refine kDn ?_ _ | refine kDr ?_ | refine kAl ?_ _)); exact BK259.out) hb); have n4_ := A0_.mk (bSp (by repeat (first | (with_reducible first | exact HB.out | apply bAl | apply pBn | apply bD1 | refine bSt ?_ GE256.out | refine bSt ?_ GE257.out | refine bSt ?_ GE258.out | refine bSt ?_ GE259.out) | exact HB.out)) hb); clear BK256; clear BK257; clear BK258; clear BK259; clear HB; have BK256 := n0_; have BK257 := n1_; have BK258 := n2_; have BK259 := n3_; have HB := n4_; clear n0_ n1_ n2_ n3_ n4_; (try clear hb); (try clear hb2); (try clear hk); (try clear hi)))
     go_meet
     case rel => exact ⟨_, (t263), (by first | rfl | (simp; done) | (simp [*]; done)), H', ⟨by first | omega | exact Nat.le_refl _⟩, ⟨by (with_reducible repeat (first | refine kDn ?_ _ | refine kDr ?_ | refine kAl ?_ _)); exact BK256.out⟩, ⟨by (with_reducible repeat (first | refine kDn ?_ _ | refine kDr ?_ | refine kAl ?_ _)); exact BK257.out⟩, ⟨by (with_reducible repeat (first | refine kDn ?_ _ | refine kDr ?_ | refine kAl ?_ _)); exact BK258.out⟩, ⟨by (with_reducible repeat (first | refine kDn ?_ _ | refine kDr ?_ | refine kAl ?_ _)); exact BK259.out⟩, ⟨by repeat (first | (with_reducible first | exact HB.out | apply bAl | apply pBn | apply bD1 | refine bSt ?_ GE256.out | refine bSt ?_ GE257.out | refine bSt ?_ GE258.out | refine bSt ?_ GE259.out) | exact HB.out)⟩⟩
 case rest =>
  clear HC5
  try clear c1
  try clear c2
  try clear p2
  try clear c3
  try clear c4
  try clear c5
  try clear c6
  try clear c11
  try clear c12
  try clear c13
  try clear c14
  try clear c16
  try clear c17
  try clear c19
  try clear c23
  try clear c24
  try clear c25
  try clear c26
  try clear c28
  try clear c29
  try clear c31
  try clear c39
  try clear c40
  try clear c41
  try clear c42
  try clear c44
  try clear c45
  try clear c47
  try clear c54
  try clear c59
  try clear c60
  try clear c61
  try clear c63
  try clear c64
  try clear c66
  try clear hcz15_0
  try clear hcz15_1
  try clear hcz18_0
  try clear hcz18_1
  try clear hcz20_0
  try clear hcz20_1
  try clear hcz27_0
  try clear hcz27_1
  try clear hcz30_0
  try clear hcz30_1
  try clear hcz32_0
  try clear hcz32_1
  try clear hcz34_0
  try clear hcz34_1
  try clear hcz35_0
  try clear hcz35_1
  try clear hcz36_0
  try clear hcz36_1
  try clear hcz43_0
  try clear hcz43_1
  try clear hcz46_0
  try clear hcz46_1
  try clear hcz48_0
  try clear hcz48_1
  try clear hcz50_0
  try clear hcz50_1
  try clear hcz51_0
  try clear hcz51_1
  try clear hcz52_0
  try clear hcz52_1
  try clear hcz54_0
  try clear hcz54_1
  try clear hcz55_0
  try clear hcz55_1
  try clear hcz56_0
  try clear hcz56_1
  try clear hcz62_0
  try clear hcz62_1
  try clear hcz65_0
  try clear hcz65_1
  try clear hcz67_0
  try clear hcz67_1
  try clear hcz69_0
  try clear hcz69_1
  try clear hcz70_0
  try clear hcz70_1
  try clear hcz71_0
  try clear hcz71_1
  try clear hcz73_0
  try clear hcz73_1
  try clear hcz74_0
  try clear hcz74_1
  try clear hcz75_0
  try clear hcz75_1
  try clear hcz77_0
  try clear hcz77_1
  try clear hcz78_0
  try clear hcz78_1
  try clear hcz79_0
  try clear hcz79_1
  try clear hfz15_0
  try clear hfz15_1
  try clear hfz18_0
  try clear hfz18_1
  try clear hfz20_0
  try clear hfz20_1
  try clear hfz27_0
  try clear hfz27_1
  try clear hfz30_0
  try clear hfz30_1
  try clear hfz32_0
  try clear hfz32_1
  try clear hfz34_0
  try clear hfz34_1
  try clear hfz35_0
  try clear hfz35_1
  try clear hfz36_0
  try clear hfz36_1
  try clear hfz43_0
  try clear hfz43_1
  try clear hfz46_0
  try clear hfz46_1
  try clear hfz48_0
  try clear hfz48_1
  try clear hfz50_0
  try clear hfz50_1
  try clear hfz51_0
  try clear hfz51_1
  try clear hfz52_0
  try clear hfz52_1
  try clear hfz54_0
  try clear hfz54_1
  try clear hfz55_0
  try clear hfz55_1
  try clear hfz56_0
  try clear hfz56_1
  try clear hfz62_0
  try clear hfz62_1
  try clear hfz65_0
  try clear hfz65_1
  try clear hfz67_0
  try clear hfz67_1
  try clear hfz69_0
  try clear hfz69_1
  try clear hfz70_0
  try clear hfz70_1
  try clear hfz71_0
  try clear hfz71_1
  try clear hfz73_0
  try clear hfz73_1
  try clear hfz74_0
  try clear hfz74_1
  try clear hfz75_0
  try clear hfz75_1
  try clear hfz77_0
  try clear hfz77_1
  try clear hfz78_0
  try clear hfz78_1
  try clear hfz79_0
  try clear hfz79_1
  obtain ⟨kq, x30_4, rfl, HA, HJ4, BK256, BK257, BK258, BK259, HB⟩ := hcut
  cases kq with
  | zero => exact absurd HA.out (by simp [windhoverref09_Common.j0])
  | succ kj4 =>
   have H := HA.out
   clear HA
   simp only [windhoverref09_Common.j0] at H
   by_cases c81 : x30_4 = true
   ·subst c81
    have H1 : (some true) = some r := by rw [if_pos rfl] at H; exact H
    clear H
    have H := H1
    clear H1
    obtain rfl := Option.some.inj H
    go_wp2
    go_ret
    exact ⟨by first | rfl | (simp [errW_none, errW_some] <;> rfl) | (simp [*, errW_none, errW_some] <;> rfl), by repeat (first | (with_reducible first | exact HB.out | apply bAl | apply pBn | apply bD1 | refine bSt ?_ GE256.out | refine bSt ?_ GE257.out | refine bSt ?_ GE258.out | refine bSt ?_ GE259.out) | exact HB.out)⟩
   ·replace c81 := Bool.eq_false_iff.mpr c81
    subst c81
    have H1 : ((windhoverref09_Cross.f a0_0 a0_1 a1_0 a1_1 a2_0 a2_1).bind fun t264 => ((windhoverref09_sign.f t264).bind fun t265 => ((windhoverref09_Cross.f a0_0 a0_1 a1_0 a1_1 a3_0 a3_1).bind fun t266 => ((windhoverref09_sign.f t266).bind fun t267 => (if (wrap64 (t265 * t267)) < 0 then ((windhoverref09_Cross.f a2_0 a2_1 a3_0 a3_1 a0_0 a0_1).bind fun t268 => ((windhoverref09_sign.f t268).bind fun t269 => ((windhoverref09_Cross.f a2_0 a2_1 a3_0 a3_1 a1_0 a1_1).bind fun t270 => ((windhoverref09_sign.f t270).bind fun t271 => (some (decide ((wrap64 (t269 * t271)) < 0))))))) else (some false)))))) = some r := by rw [if_neg (show ¬ (false = true) by decide)] at H; exact H
    clear H
    have H := H1
    clear H1
    replace H := Option.bind_eq_some_iff.mp H
    obtain ⟨t264, A820, H⟩ := H
    replace H : ((windhoverref09_sign.f t264).bind fun t265 => ((windhoverref09_Cross.f a0_0 a0_1 a1_0 a1_1 a3_0 a3_1).bind fun t266 => ((windhoverref09_sign.f t266).bind fun t267 => (if (wrap64 (t265 * t267)) < 0 then ((windhoverref09_Cross.f a2_0 a2_1 a3_0 a3_1 a0_0 a0_1).bind fun t268 => ((windhoverref09_sign.f t268).bind fun t269 => ((windhoverref09_Cross.f a2_0 a2_1 a3_0 a3_1 a1_0 a1_1).bind fun t270 => ((windhoverref09_sign.f t270).bind fun t271 => (some (decide ((wrap64 (t269 * t271)) < 0))))))) else (some false))))) = some r := H
    have A82 := A0_.mk A820
    clear A820
    replace H := Option.bind_eq_some_iff.mp H
    obtain ⟨t265, A830, H⟩ := H
    replace H : ((windhoverref09_Cross.f a0_0 a0_1 a1_0 a1_1 a3_0 a3_1).bind fun t266 => ((windhoverref09_sign.f t266).bind fun t267 => (if (wrap64 (t265 * t267)) < 0 then ((windhoverref09_Cross.f a2_0 a2_1 a3_0 a3_1 a0_0 a0_1).bind fun t268 => ((windhoverref09_sign.f t268).bind fun t269 => ((windhoverref09_Cross.f a2_0 a2_1 a3_0 a3_1 a1_0 a1_1).bind fun t270 => ((windhoverref09_sign.f t270).bind fun t271 => (some (decide ((wrap64 (t269 * t271)) < 0))))))) else (some false)))) = some r := H
    have A83 := A0_.mk A830
    clear A830
    replace H := Option.bind_eq_some_iff.mp H
    obtain ⟨t266, A840, H⟩ := H
    replace H : ((windhoverref09_sign.f t266).bind fun t267 => (if (wrap64 (t265 * t267)) < 0 then ((windhoverref09_Cross.f a2_0 a2_1 a3_0 a3_1 a0_0 a0_1).bind fun t268 => ((windhoverref09_sign.f t268).bind fun t269 => ((windhoverref09_Cross.f a2_0 a2_1 a3_0 a3_1 a1_0 a1_1).bind fun t270 => ((windhoverref09_sign.f t270).bind fun t271 => (some (decide ((wrap64 (t269 * t271)) < 0))))))) else (some false))) = some r := H
    have A84 := A0_.mk A840
    clear A840
    replace H := Option.bind_eq_some_iff.mp H
    obtain ⟨t267, A850, H⟩ := H
    replace H : (if (wrap64 (t265 * t267)) < 0 then ((windhoverref09_Cross.f a2_0 a2_1 a3_0 a3_1 a0_0 a0_1).bind fun t268 => ((windhoverref09_sign.f t268).bind fun t269 => ((windhoverref09_Cross.f a2_0 a2_1 a3_0 a3_1 a1_0 a1_1).bind fun t270 => ((windhoverref09_sign.f t270).bind fun t271 => (some (decide ((wrap64 (t269 * t271)) < 0))))))) else (some false)) = some r := H
    have A85 := A0_.mk A850
    clear A850
    by_cases c86 : (wrap64 (t265 * t267)) < 0
    ·rw [if_pos c86] at H
     have c86b0 : decide ((wrap64 (t265 * t267)) < 0) = true := decide_eq_true c86
     clear c86
     replace H := Option.bind_eq_some_iff.mp H
     obtain ⟨t268, A870, H⟩ := H
     replace H : ((windhoverref09_sign.f t268).bind fun t269 => ((windhoverref09_Cross.f a2_0 a2_1 a3_0 a3_1 a1_0 a1_1).bind fun t270 => ((windhoverref09_sign.f t270).bind fun t271 => (some (decide ((wrap64 (t269 * t271)) < 0)))))) = some r := H
     have A87 := A0_.mk A870
     clear A870
     replace H := Option.bind_eq_some_iff.mp H
     obtain ⟨t269, A880, H⟩ := H
     replace H : ((windhoverref09_Cross.f a2_0 a2_1 a3_0 a3_1 a1_0 a1_1).bind fun t270 => ((windhoverref09_sign.f t270).bind fun t271 => (some (decide ((wrap64 (t269 * t271)) < 0))))) = some r := H
     have A88 := A0_.mk A880
     clear A880
     replace H := Option.bind_eq_some_iff.mp H
     obtain ⟨t270, A890, H⟩ := H
     replace H : ((windhoverref09_sign.f t270).bind fun t271 => (some (decide ((wrap64 (t269 * t271)) < 0)))) = some r := H
     have A89 := A0_.mk A890
     clear A890
     replace H := Option.bind_eq_some_iff.mp H
     obtain ⟨t271, A900, H⟩ := H
     replace H : (some (decide ((wrap64 (t269 * t271)) < 0))) = some r := H
     have A90 := A0_.mk A900
     clear A900
     obtain rfl := Option.some.inj H
     try go_wp2
     have n0_ := A0_.mk (kDr BK256.out)
     have n1_ := A0_.mk (kDr BK257.out)
     have n2_ := A0_.mk (kDr BK258.out)
     have n3_ := A0_.mk (kDr BK259.out)
     have n4_ := A0_.mk (bD1 HB.out)
     clear BK256
     clear BK257
     clear BK258
     clear BK259
     clear HB
     have BK256 := n0_
     have BK257 := n1_
     have BK258 := n2_
     have BK259 := n3_
     have HB := n4_
     clear n0_ n1_ n2_ n3_ n4_
     refine start_ (n := 27) (S := fun w' => w'.cell? ⟨gb256, 0, none⟩ = some (.int .i64 a0_0) ∧ w'.cell? ⟨gb256, 1, none⟩ = some (.int .i64 a0_1) ∧ w'.cell? ⟨gb257, 0, none⟩ = some (.int .i64 a1_0) ∧ w'.cell? ⟨gb257, 1, none⟩ = some (.int .i64 a1_1) ∧ w'.cell? ⟨gb258, 0, none⟩ = some (.int .i64 a2_0) ∧ w'.cell? ⟨gb258, 1, none⟩ = some (.int .i64 a2_1) ∧ w'.cell? ⟨gb259, 0, none⟩ = some (.int .i64 a3_0) ∧ w'.cell? ⟨gb259, 1, none⟩ = some (.int .i64 a3_1)) (ds := []) #[false, false, false, false, false, false, false, false, false, false, false, false, false, false, false, false, false, false, false, false, false, false, false, false, false, false, false] (by kernel_rfl) rfl rfl ⟨(kCe BK256.out 0).trans rfl, (kCe BK256.out 1).trans rfl, (kCe BK257.out 0).trans rfl, (kCe BK257.out 1).trans rfl, (kCe BK258.out 0).trans rfl, (kCe BK258.out 1).trans rfl, (kCe BK259.out 0).trans rfl, (kCe BK259.out 1).trans rfl⟩ (fun hHeld => ?_); refine with_tabW windhoverref09_Common.tab3 windhoverref09_Common.bits3 (fun HT_ HW_ => ?_)
     generalize wc.drew = w91 at BK256 BK257 BK258 BK259 HB hHeld ⊢
     refine take_ (i := 0) (N := some 31) (v := ?_) (a' := ?_) #[true, false, false, false, false, false, false, false, false, false, false, false, false, false, false, false, false, false, false, false, false, false, false, false, false, false, false] rfl rfl (take_ofW HT_.out HW_.out (by kernel_rfl)) (fun _ _ _ h => h) (Or.inl ⟨by rfl, ?_⟩) hHeld ?_ ?_
     rotate_left
     ·rintro w' ⟨s0, s1, s2, s3, s4, s5, s6, s7⟩
      go_simp
      with_reducible rfl
     rotate_left
     ·simp only [Act.put, lsT, lcZ, lcS, i64_w, i32_w]
      rfl
     refine take_ (i := 1) (N := some 32) (v := ?_) (a' := ?_) #[true, true, false, false, false, false, false, false, false, false, false, false, false, false, false, false, false, false, false, false, false, false, false, false, false, false, false] rfl rfl (take_ofW HT_.out HW_.out (by kernel_rfl)) (fun _ _ _ h => h) (Or.inl ⟨by rfl, ?_⟩) hHeld ?_ ?_
     rotate_left
     ·rintro w' ⟨s0, s1, s2, s3, s4, s5, s6, s7⟩
      go_simp
      with_reducible rfl
     rotate_left
     ·simp only [Act.put, lsT, lcZ, lcS, i64_w, i32_w]
      rfl
     refine take_ (i := 2) (N := some 33) (v := ?_) (a' := ?_) #[true, true, true, false, false, false, false, false, false, false, false, false, false, false, false, false, false, false, false, false, false, false, false, false, false, false, false] rfl rfl (take_ofW HT_.out HW_.out (by kernel_rfl)) (fun _ _ _ h => h) (Or.inl ⟨by rfl, ?_⟩) hHeld ?_ ?_
     rotate_left
     ·rintro w' ⟨s0, s1, s2, s3, s4, s5, s6, s7⟩
      go_simp
      with_reducible rfl
     rotate_left
     ·simp only [Act.put, lsT, lcZ, lcS, i64_w, i32_w]
      rfl
     refine take_ (i := 5) (N := some 36) (v := ?_) (a' := ?_) #[true, true, true, false, false, true, false, false, false, false, false, false, false, false, false, false, false, false, false, false, false, false, false, false, false, false, false] rfl rfl (take_ofW HT_.out HW_.out (by kernel_rfl)) (fun _ _ _ h => h) (Or.inl ⟨by rfl, ?_⟩) hHeld ?_ ?_
     rotate_left
     ·rintro w' ⟨s0, s1, s2, s3, s4, s5, s6, s7⟩
      go_simp
      with_reducible rfl
     rotate_left
     ·simp only [Act.put, lsT, lcZ, lcS, i64_w, i32_w]
      rfl
     refine take_ (i := 6) (N := some 37) (v := ?_) (a' := ?_) #[true, true, true, false, false, true, true, false, false, false, false, false, false, false, false, false, false, false, false, false, false, false, false, false, false, false, false] rfl rfl (take_ofW HT_.out HW_.out (by kernel_rfl)) (fun _ _ _ h => h) (Or.inl ⟨by rfl, ?_⟩) hHeld ?_ ?_
     rotate_left
     ·rintro w' ⟨s0, s1, s2, s3, s4, s5, s6, s7⟩
      go_simp
      with_reducible rfl
     rotate_left
     ·simp only [Act.put, lsT, lcZ, lcS, i64_w, i32_w]
      rfl
     refine take_ (i := 7) (N := some 38) (v := ?_) (a' := ?_) #[true, true, true, false, false, true, true, true, false, false, false, false, false, false, false, false, false, false, false, false, false, false, false, false, false, false, false] rfl rfl (take_ofW HT_.out HW_.out (by kernel_rfl)) (fun _ _ _ h => h) (Or.inl ⟨by rfl, ?_⟩) hHeld ?_ ?_
     rotate_left
     ·rintro w' ⟨s0, s1, s2, s3, s4, s5, s6, s7⟩
      go_simp
      with_reducible rfl
     rotate_left
     ·simp only [Act.put, lsT, lcZ, lcS, i64_w, i32_w]
      rfl
     refine one_ (i := 3) (N := some 34) #[true, true, true, true, false, true, true, true, false, false, false, false, false, false, false, false, false, false, false, false, false, false, false, false, false, false, false] rfl rfl (one_of HT_.out (by kernel_rfl)) (by decide) (fun K hK => ?_)
     refine goes_ Try.func38 (by kernel_rfl) rfl #[.agg #[.int .i64 a0_0, .int .i64 a0_1], .agg #[.int .i64 a1_0, .int .i64 a1_1], .agg #[.int .i64 a2_0, .int .i64 a2_1]] (by rfl) rfl rfl (by (try simp only [List.map_toArray, List.map_cons, List.map_nil]); first | done | rfl | (simp only [List.length_drop, List.length_take]; rfl)) ?_
     with_reducible refine (windhoverref09_Cross.calls a0_0 a0_1 a1_0 a1_1 a2_0 a2_1 t264 _ A82.out).mono ?_
     rintro e w92 ⟨rfl, hb⟩
     refine ⟨_, rfl, ?_⟩
     have n0_ := A0_.mk (kBe (g := gb256) (o := .cells #[.int .i64 a0_0, .int .i64 a0_1] 23 (0, 0)) (by (with_reducible repeat (first | refine kDn ?_ _ | refine kDr ?_ | refine kAl ?_ _)); exact BK256.out) hb)
     have n1_ := A0_.mk (kBe (g := gb257) (o := .cells #[.int .i64 a1_0, .int .i64 a1_1] 23 (0, 0)) (by (with_reducible repeat (first | refine kDn ?_ _ | refine kDr ?_ | refine kAl ?_ _)); exact BK257.out) hb)
     have n2_ := A0_.mk (kBe (g := gb258) (o := .cells #[.int .i64 a2_0, .int .i64 a2_1] 23 (0, 0)) (by (with_reducible repeat (first | refine kDn ?_ _ | refine kDr ?_ | refine kAl ?_ _)); exact BK258.out) hb)
     have n3_ := A0_.mk (kBe (g := gb259) (o := .cells #[.int .i64 a3_0, .int .i64 a3_1] 23 (0, 0)) (by (with_reducible repeat (first | refine kDn ?_ _ | refine kDr ?_ | refine kAl ?_ _)); exact BK259.out) hb)
     have n4_ := A0_.mk (bSp (by repeat (first | (with_reducible first | exact HB.out | apply bAl | apply pBn | apply bD1 | refine bSt ?_ GE256.out | refine bSt ?_ GE257.out | refine bSt ?_ GE258.out | refine bSt ?_ GE259.out) | exact HB.out)) hb)
     clear BK256
     clear BK257
     clear BK258
     clear BK259
     clear HB
     have BK256 := n0_
     have BK257 := n1_
     have BK258 := n2_
     have BK259 := n3_
     have HB := n4_
     clear n0_ n1_ n2_ n3_ n4_
     (try clear hb)
     (try clear hb2)
     (try clear hk)
     (try clear hi)
     refine hK.out _ _ ⟨(kCe BK256.out 0).trans rfl, (kCe BK256.out 1).trans rfl, (kCe BK257.out 0).trans rfl, (kCe BK257.out 1).trans rfl, (kCe BK258.out 0).trans rfl, (kCe BK258.out 1).trans rfl, (kCe BK259.out 0).trans rfl, (kCe BK259.out 1).trans rfl⟩ (fun hHeld => ?_)
     clear hK K
     refine norm_ (a' := ?_) ?_ ?_
     rotate_left
     ·show Act.put _ (some 34) _ = _
      simp only [Act.put, lsT, lcZ, lcS, i64_w, i32_w]
      rfl
     refine one_ (i := 4) (N := some 35) #[true, true, true, true, true, true, true, true, false, false, false, false, false, false, false, false, false, false, false, false, false, false, false, false, false, false, false] rfl rfl (one_of HT_.out (by kernel_rfl)) (by decide) (fun K hK => ?_)
     refine goes_ Try.func37 (by kernel_rfl) rfl #[.int .i64 t264] (by rfl) rfl rfl (by (try simp only [List.map_toArray, List.map_cons, List.map_nil]); first | done | rfl | (simp only [List.length_drop, List.length_take]; rfl)) ?_
     with_reducible refine (windhoverref09_sign.calls t264 t265 _ A83.out).mono ?_
     rintro e w' ⟨rfl, ⟨nd, rfl⟩⟩
     refine ⟨_, rfl, ?_⟩
     refine hK.out _ _ ⟨(kCe BK256.out 0).trans rfl, (kCe BK256.out 1).trans rfl, (kCe BK257.out 0).trans rfl, (kCe BK257.out 1).trans rfl, (kCe BK258.out 0).trans rfl, (kCe BK258.out 1).trans rfl, (kCe BK259.out 0).trans rfl, (kCe BK259.out 1).trans rfl⟩ (fun hHeld => ?_)
     clear hK K
     refine norm_ (a' := ?_) ?_ ?_
     rotate_left
     ·show Act.put _ (some 35) _ = _
      simp only [Act.put, lsT, lcZ, lcS, i64_w, i32_w]
      rfl
     refine one_ (i := 8) (N := some 39) #[true, true, true, true, true, true, true, true, true, false, false, false, false, false, false, false, false, false, false, false, false, false, false, false, false, false, false] rfl rfl (one_of HT_.out (by kernel_rfl)) (by decide) (fun K hK => ?_)
     refine goes_ Try.func38 (by kernel_rfl) rfl #[.agg #[.int .i64 a0_0, .int .i64 a0_1], .agg #[.int .i64 a1_0, .int .i64 a1_1], .agg #[.int .i64 a3_0, .int .i64 a3_1]] (by rfl) rfl rfl (by (try simp only [List.map_toArray, List.map_cons, List.map_nil]); first | done | rfl | (simp only [List.length_drop, List.length_take]; rfl)) ?_
     with_reducible refine (windhoverref09_Cross.calls a0_0 a0_1 a1_0 a1_1 a3_0 a3_1 t266 _ A84.out).mono ?_
     rintro e w93 ⟨rfl, hb⟩
     refine ⟨_, rfl, ?_⟩
     have n0_ := A0_.mk (kBe (g := gb256) (o := .cells #[.int .i64 a0_0, .int .i64 a0_1] 23 (0, 0)) (by (with_reducible repeat (first | refine kDn ?_ _ | refine kDr ?_ | refine kAl ?_ _)); exact BK256.out) hb)
     have n1_ := A0_.mk (kBe (g := gb257) (o := .cells #[.int .i64 a1_0, .int .i64 a1_1] 23 (0, 0)) (by (with_reducible repeat (first | refine kDn ?_ _ | refine kDr ?_ | refine kAl ?_ _)); exact BK257.out) hb)
     have n2_ := A0_.mk (kBe (g := gb258) (o := .cells #[.int .i64 a2_0, .int .i64 a2_1] 23 (0, 0)) (by (with_reducible repeat (first | refine kDn ?_ _ | refine kDr ?_ | refine kAl ?_ _)); exact BK258.out) hb)
     have n3_ := A0_.mk (kBe (g := gb259) (o := .cells #[.int .i64 a3_0, .int .i64 a3_1] 23 (0, 0)) (by (with_reducible repeat (first | refine kDn ?_ _ | refine kDr ?_ | refine kAl ?_ _)); exact BK259.out) hb)
     have n4_ := A0_.mk (bSp (by repeat (first | (with_reducible first | exact HB.out | apply bAl | apply pBn | apply bD1 | refine bSt ?_ GE256.out | refine bSt ?_ GE257.out | refine bSt ?_ GE258.out | refine bSt ?_ GE259.out) | exact HB.out)) hb)
     clear BK256
     clear BK257
     clear BK258
     clear BK259
     clear HB
     have BK256 := n0_
     have BK257 := n1_
     have BK258 := n2_
     have BK259 := n3_
     have HB := n4_
     clear n0_ n1_ n2_ n3_ n4_
     (try clear hb)
     (try clear hb2)
     (try clear hk)
     (try clear hi)
     refine hK.out _ _ ⟨(kCe BK256.out 0).trans rfl, (kCe BK256.out 1).trans rfl, (kCe BK257.out 0).trans rfl, (kCe BK257.out 1).trans rfl, (kCe BK258.out 0).trans rfl, (kCe BK258.out 1).trans rfl, (kCe BK259.out 0).trans rfl, (kCe BK259.out 1).trans rfl⟩ (fun hHeld => ?_)
     clear hK K
     refine norm_ (a' := ?_) ?_ ?_
     rotate_left
     ·show Act.put _ (some 39) _ = _
      simp only [Act.put, lsT, lcZ, lcS, i64_w, i32_w]
      rfl
     refine one_ (i := 9) (N := some 40) #[true, true, true, true, true, true, true, true, true, true, false, false, false, false, false, false, false, false, false, false, false, false, false, false, false, false, false] rfl rfl (one_of HT_.out (by kernel_rfl)) (by decide) (fun K hK => ?_)
     refine goes_ Try.func37 (by kernel_rfl) rfl #[.int .i64 t266] (by rfl) rfl rfl (by (try simp only [List.map_toArray, List.map_cons, List.map_nil]); first | done | rfl | (simp only [List.length_drop, List.length_take]; rfl)) ?_
     with_reducible refine (windhoverref09_sign.calls t266 t267 _ A85.out).mono ?_
     rintro e w' ⟨rfl, ⟨nd, rfl⟩⟩
     refine ⟨_, rfl, ?_⟩
     refine hK.out _ _ ⟨(kCe BK256.out 0).trans rfl, (kCe BK256.out 1).trans rfl, (kCe BK257.out 0).trans rfl, (kCe BK257.out 1).trans rfl, (kCe BK258.out 0).trans rfl, (kCe BK258.out 1).trans rfl, (kCe BK259.out 0).trans rfl, (kCe BK259.out 1).trans rfl⟩ (fun hHeld => ?_)
     clear hK K
     refine norm_ (a' := ?_) ?_ ?_
     rotate_left
     ·show Act.put _ (some 40) _ = _
      simp only [Act.put, lsT, lcZ, lcS, i64_w, i32_w]
      rfl
     refine pure_ (i := 10) (N := some 41) (v := ?_) (a' := ?_) #[true, true, true, true, true, true, true, true, true, true, true, false, false, false, false, false, false, false, false, false, false, false, false, false, false, false, false] rfl rfl (any_of HT_.out (by kernel_rfl)) (fun _ _ _ h => h) (Or.inl ⟨by rfl, ?_⟩) ?_ ?_
     rotate_left
     ·intro w'
      go_simp
      with_reducible rfl
     rotate_left
     ·simp only [Act.put, lsT, lcZ, lcS, i64_w, i32_w]
      rfl
     refine pure_ (i := 11) (N := some 42) (v := ?_) (a' := ?_) #[true, true, true, true, true, true, true, true, true, true, true, true, false, false, false, false, false, false, false, false, false, false, false, false, false, false, false] rfl rfl (any_of HT_.out (by kernel_rfl)) (fun _ _ _ h => h) (Or.inl ⟨by rfl, ?_⟩) ?_ ?_
     rotate_left
     ·intro w'
      go_simp
      with_reducible rfl
     rotate_left
     ·simp only [Act.put, lsT, lcZ, lcS, i64_w, i32_w]
      rfl
     refine pure_ (i := 12) (N := some 43) (v := ?_) (a' := ?_) #[true, true, true, true, true, true, true, true, true, true, true, true, true, false, false, false, false, false, false, false, false, false, false, false, false, false, false] rfl rfl (any_of HT_.out (by kernel_rfl)) (fun _ _ _ h => h) (Or.inl ⟨by rfl, ?_⟩) ?_ ?_
     rotate_left
     ·intro w'
      go_simp
      with_reducible rfl
     rotate_left
     ·simp only [Act.put, lsT, lcZ, lcS, i64_w, i32_w]
      rfl
     refine take_ (i := 13) (N := some 44) (v := ?_) (a' := ?_) #[true, true, true, true, true, true, true, true, true, true, true, true, true, true, false, false, false, false, false, false, false, false, false, false, false, false, false] rfl rfl (take_ofW HT_.out HW_.out (by kernel_rfl)) (fun _ _ _ h => h) (Or.inl ⟨by rfl, ?_⟩) hHeld ?_ ?_
     rotate_left
     ·rintro w' ⟨s0, s1, s2, s3, s4, s5, s6, s7⟩
      go_simp
      with_reducible rfl
     rotate_left
     ·simp only [Act.put, lsT, lcZ, lcS, i64_w, i32_w]
      rfl
     refine take_ (i := 14) (N := some 45) (v := ?_) (a' := ?_) #[true, true, true, true, true, true, true, true, true, true, true, true, true, true, true, false, false, false, false, false, false, false, false, false, false, false, false] rfl rfl (take_ofW HT_.out HW_.out (by kernel_rfl)) (fun _ _ _ h => h) (Or.inl ⟨by rfl, ?_⟩) hHeld ?_ ?_
     rotate_left
     ·rintro w' ⟨s0, s1, s2, s3, s4, s5, s6, s7⟩
      go_simp
      with_reducible rfl
     rotate_left
     ·simp only [Act.put, lsT, lcZ, lcS, i64_w, i32_w]
      rfl
     refine take_ (i := 15) (N := some 46) (v := ?_) (a' := ?_) #[true, true, true, true, true, true, true, true, true, true, true, true, true, true, true, true, false, false, false, false, false, false, false, false, false, false, false] rfl rfl (take_ofW HT_.out HW_.out (by kernel_rfl)) (fun _ _ _ h => h) (Or.inl ⟨by rfl, ?_⟩) hHeld ?_ ?_
     rotate_left
     ·rintro w' ⟨s0, s1, s2, s3, s4, s5, s6, s7⟩
      go_simp
      with_reducible rfl
     rotate_left
     ·simp only [Act.put, lsT, lcZ, lcS, i64_w, i32_w]
      rfl
     refine take_ (i := 18) (N := some 49) (v := ?_) (a' := ?_) #[true, true, true, true, true, true, true, true, true, true, true, true, true, true, true, true, false, false, true, false, false, false, false, false, false, false, false] rfl rfl (take_ofW HT_.out HW_.out (by kernel_rfl)) (fun _ _ _ h => h) (Or.inl ⟨by rfl, ?_⟩) hHeld ?_ ?_
     rotate_left
     ·rintro w' ⟨s0, s1, s2, s3, s4, s5, s6, s7⟩
      go_simp
      with_reducible rfl
     rotate_left
     ·simp only [Act.put, lsT, lcZ, lcS, i64_w, i32_w]
      rfl
     refine take_ (i := 19) (N := some 50) (v := ?_) (a' := ?_) #[true, true, true, true, true, true, true, true, true, true, true, true, true, true, true, true, false, false, true, true, false, false, false, false, false, false, false] rfl rfl (take_ofW HT_.out HW_.out (by kernel_rfl)) (fun _ _ _ h => h) (Or.inl ⟨by rfl, ?_⟩) hHeld ?_ ?_
     rotate_left
     ·rintro w' ⟨s0, s1, s2, s3, s4, s5, s6, s7⟩
      go_simp
      with_reducible rfl
     rotate_left
     ·simp only [Act.put, lsT, lcZ, lcS, i64_w, i32_w]
      rfl
     refine take_ (i := 20) (N := some 51) (v := ?_) (a' := ?_) #[true, true, true, true, true, true, true, true, true, true, true, true, true, true, true, true, false, false, true, true, true, false, false, false, false, false, false] rfl rfl (take_ofW HT_.out HW_.out (by kernel_rfl)) (fun _ _ _ h => h) (Or.inl ⟨by rfl, ?_⟩) hHeld ?_ ?_
     rotate_left
     ·rintro w' ⟨s0, s1, s2, s3, s4, s5, s6, s7⟩
      go_simp
      with_reducible rfl
     rotate_left
     ·simp only [Act.put, lsT, lcZ, lcS, i64_w, i32_w]
      rfl
     refine one_ (i := 16) (N := some 47) #[true, true, true, true, true, true, true, true, true, true, true, true, true, true, true, true, true, false, true, true, true, false, false, false, false, false, false] rfl rfl (one_of HT_.out (by kernel_rfl)) (by decide) (fun K hK => ?_)
     refine goes_ Try.func38 (by kernel_rfl) rfl #[.agg #[.int .i64 a2_0, .int .i64 a2_1], .agg #[.int .i64 a3_0, .int .i64 a3_1], .agg #[.int .i64 a0_0, .int .i64 a0_1]] (by rfl) rfl rfl (by (try simp only [List.map_toArray, List.map_cons, List.map_nil]); first | done | rfl | (simp only [List.length_drop, List.length_take]; rfl)) ?_
     with_reducible refine (windhoverref09_Cross.calls a2_0 a2_1 a3_0 a3_1 a0_0 a0_1 t268 _ A87.out).mono ?_
     rintro e w94 ⟨rfl, hb⟩
     refine ⟨_, rfl, ?_⟩
     have n0_ := A0_.mk (kBe (g := gb256) (o := .cells #[.int .i64 a0_0, .int .i64 a0_1] 23 (0, 0)) (by (with_reducible repeat (first | refine kDn ?_ _ | refine kDr ?_ | refine kAl ?_ _)); exact BK256.out) hb)
     have n1_ := A0_.mk (kBe (g := gb257) (o := .cells #[.int .i64 a1_0, .int .i64 a1_1] 23 (0, 0)) (by (with_reducible repeat (first | refine kDn ?_ _ | refine kDr ?_ | refine kAl ?_ _)); exact BK257.out) hb)
     have n2_ := A0_.mk (kBe (g := gb258) (o := .cells #[.int .i64 a2_0, .int .i64 a2_1] 23 (0, 0)) (by (with_reducible repeat (first | refine kDn ?_ _ | refine kDr ?_ | refine kAl ?_ _)); exact BK258.out) hb)
     have n3_ := A0_.mk (kBe (g := gb259) (o := .cells #[.int .i64 a3_0, .int .i64 a3_1] 23 (0, 0)) (by (with_reducible repeat (first | refine kDn ?_ _ | refine kDr ?_ | refine kAl ?_ _)); exact BK259.out) hb)
     have n4_ := A0_.mk (bSp (by repeat (first | (with_reducible first | exact HB.out | apply bAl | apply pBn | apply bD1 | refine bSt ?_ GE256.out | refine bSt ?_ GE257.out | refine bSt ?_ GE258.out | refine bSt ?_ GE259.out) | exact HB.out)) hb)
     clear BK256
     clear BK257
     clear BK258
     clear BK259
     clear HB
     have BK256 := n0_
     have BK257 := n1_
     have BK258 := n2_
     have BK259 := n3_
     have HB := n4_
     clear n0_ n1_ n2_ n3_ n4_
     (try clear hb)
     (try clear hb2)
     (try clear hk)
     (try clear hi)
     refine hK.out _ _ ⟨(kCe BK256.out 0).trans rfl, (kCe BK256.out 1).trans rfl, (kCe BK257.out 0).trans rfl, (kCe BK257.out 1).trans rfl, (kCe BK258.out 0).trans rfl, (kCe BK258.out 1).trans rfl, (kCe BK259.out 0).trans rfl, (kCe BK259.out 1).trans rfl⟩ (fun hHeld => ?_)
     clear hK K
     refine norm_ (a' := ?_) ?_ ?_
     rotate_left
     ·show Act.put _ (some 47) _ = _
      simp only [Act.put, lsT, lcZ, lcS, i64_w, i32_w]
      rfl
     refine one_ (i := 17) (N := some 48) #[true, true, true, true, true, true, true, true, true, true, true, true, true, true, true, true, true, true, true, true, true, false, false, false, false, false, false] rfl rfl (one_of HT_.out (by kernel_rfl)) (by decide) (fun K hK => ?_)
     refine goes_ Try.func37 (by kernel_rfl) rfl #[.int .i64 t268] (by rfl) rfl rfl (by (try simp only [List.map_toArray, List.map_cons, List.map_nil]); first | done | rfl | (simp only [List.length_drop, List.length_take]; rfl)) ?_
     with_reducible refine (windhoverref09_sign.calls t268 t269 _ A88.out).mono ?_
     rintro e w' ⟨rfl, ⟨nd, rfl⟩⟩
     refine ⟨_, rfl, ?_⟩
     refine hK.out _ _ ⟨(kCe BK256.out 0).trans rfl, (kCe BK256.out 1).trans rfl, (kCe BK257.out 0).trans rfl, (kCe BK257.out 1).trans rfl, (kCe BK258.out 0).trans rfl, (kCe BK258.out 1).trans rfl, (kCe BK259.out 0).trans rfl, (kCe BK259.out 1).trans rfl⟩ (fun hHeld => ?_)
     clear hK K
     refine norm_ (a' := ?_) ?_ ?_
     rotate_left
     ·show Act.put _ (some 48) _ = _
      simp only [Act.put, lsT, lcZ, lcS, i64_w, i32_w]
      rfl
     refine one_ (i := 21) (N := some 52) #[true, true, true, true, true, true, true, true, true, true, true, true, true, true, true, true, true, true, true, true, true, true, false, false, false, false, false] rfl rfl (one_of HT_.out (by kernel_rfl)) (by decide) (fun K hK => ?_)
     refine goes_ Try.func38 (by kernel_rfl) rfl #[.agg #[.int .i64 a2_0, .int .i64 a2_1], .agg #[.int .i64 a3_0, .int .i64 a3_1], .agg #[.int .i64 a1_0, .int .i64 a1_1]] (by rfl) rfl rfl (by (try simp only [List.map_toArray, List.map_cons, List.map_nil]); first | done | rfl | (simp only [List.length_drop, List.length_take]; rfl)) ?_
     with_reducible refine (windhoverref09_Cross.calls a2_0 a2_1 a3_0 a3_1 a1_0 a1_1 t270 _ A89.out).mono ?_
     rintro e w95 ⟨rfl, hb⟩
     refine ⟨_, rfl, ?_⟩
     have n0_ := A0_.mk (kBe (g := gb256) (o := .cells #[.int .i64 a0_0, .int .i64 a0_1] 23 (0, 0)) (by (with_reducible repeat (first | refine kDn ?_ _ | refine kDr ?_ | refine kAl ?_ _)); exact BK256.out) hb)
     have n1_ := A0_.mk (kBe (g := gb257) (o := .cells #[.int .i64 a1_0, .int .i64 a1_1] 23 (0, 0)) (by (with_reducible repeat (first | refine kDn ?_ _ | refine kDr ?_ | refine kAl ?_ _)); exact BK257.out) hb)
     have n2_ := A0_.mk (kBe (g := gb258) (o := .cells #[.int .i64 a2_0, .int .i64 a2_1] 23 (0, 0)) (by (with_reducible repeat (first | refine kDn ?_ _ | refine kDr ?_ | refine kAl ?_ _)); exact BK258.out) hb)
     have n3_ := A0_.mk (kBe (g := gb259) (o := .cells #[.int .i64 a3_0, .int .i64 a3_1] 23 (0, 0)) (by (with_reducible repeat (first | refine kDn ?_ _ | refine kDr ?_ | refine kAl ?_ _)); exact BK259.out) hb)
     have n4_ := A0_.mk (bSp (by repeat (first | (with_reducible first | exact HB.out | apply bAl | apply pBn | apply bD1 | refine bSt ?_ GE256.out | refine bSt ?_ GE257.out | refine bSt ?_ GE258.out | refine bSt ?_ GE259.out) | exact HB.out)) hb)
     clear BK256
     clear BK257
     clear BK258
     clear BK259
     clear HB
     have BK256 := n0_
     have BK257 := n1_
     have BK258 := n2_
     have BK259 := n3_
     have HB := n4_
     clear n0_ n1_ n2_ n3_ n4_
     (try clear hb)
     (try clear hb2)
     (try clear hk)
     (try clear hi)
     refine hK.out _ _ ⟨(kCe BK256.out 0).trans rfl, (kCe BK256.out 1).trans rfl, (kCe BK257.out 0).trans rfl, (kCe BK257.out 1).trans rfl, (kCe BK258.out 0).trans rfl, (kCe BK258.out 1).trans rfl, (kCe BK259.out 0).trans rfl, (kCe BK259.out 1).trans rfl⟩ (fun hHeld => ?_)
     clear hK K
     refine norm_ (a' := ?_) ?_ ?_
     rotate_left
     ·show Act.put _ (some 52) _ = _
      simp only [Act.put, lsT, lcZ, lcS, i64_w, i32_w]
      rfl
     refine one_ (i := 22) (N := some 53) #[true, true, true, true, true, true, true, true, true, true, true, true, true, true, true, true, true, true, true, true, true, true, true, false, false, false, false] rfl rfl (one_of HT_.out (by kernel_rfl)) (by decide) (fun K hK => ?_)
     refine goes_ Try.func37 (by kernel_rfl) rfl #[.int .i64 t270] (by rfl) rfl rfl (by (try simp only [List.map_toArray, List.map_cons, List.map_nil]); first | done | rfl | (simp only [List.length_drop, List.length_take]; rfl)) ?_
     with_reducible refine (windhoverref09_sign.calls t270 t271 _ A90.out).mono ?_
     rintro e w' ⟨rfl, ⟨nd, rfl⟩⟩
     refine ⟨_, rfl, ?_⟩
     refine hK.out _ _ ⟨(kCe BK256.out 0).trans rfl, (kCe BK256.out 1).trans rfl, (kCe BK257.out 0).trans rfl, (kCe BK257.out 1).trans rfl, (kCe BK258.out 0).trans rfl, (kCe BK258.out 1).trans rfl, (kCe BK259.out 0).trans rfl, (kCe BK259.out 1).trans rfl⟩ (fun hHeld => ?_)
     clear hK K
     refine norm_ (a' := ?_) ?_ ?_
     rotate_left
     ·show Act.put _ (some 53) _ = _
      simp only [Act.put, lsT, lcZ, lcS, i64_w, i32_w]
      rfl
     refine pure_ (i := 23) (N := some 54) (v := ?_) (a' := ?_) #[true, true, true, true, true, true, true, true, true, true, true, true, true, true, true, true, true, true, true, true, true, true, true, true, false, false, false] rfl rfl (any_of HT_.out (by kernel_rfl)) (fun _ _ _ h => h) (Or.inl ⟨by rfl, ?_⟩) ?_ ?_
     rotate_left
     ·intro w'
      go_simp
      with_reducible rfl
     rotate_left
     ·simp only [Act.put, lsT, lcZ, lcS, i64_w, i32_w]
      rfl
     refine pure_ (i := 24) (N := some 55) (v := ?_) (a' := ?_) #[true, true, true, true, true, true, true, true, true, true, true, true, true, true, true, true, true, true, true, true, true, true, true, true, true, false, false] rfl rfl (any_of HT_.out (by kernel_rfl)) (fun _ _ _ h => h) (Or.inl ⟨by rfl, ?_⟩) ?_ ?_
     rotate_left
     ·intro w'
      go_simp
      with_reducible rfl
     rotate_left
     ·simp only [Act.put, lsT, lcZ, lcS, i64_w, i32_w]
      rfl
     refine pure_ (i := 25) (N := some 56) (v := ?_) (a' := ?_) #[true, true, true, true, true, true, true, true, true, true, true, true, true, true, true, true, true, true, true, true, true, true, true, true, true, true, false] rfl rfl (any_of HT_.out (by kernel_rfl)) (fun _ _ _ h => h) (Or.inl ⟨by rfl, ?_⟩) ?_ ?_
     rotate_left
     ·intro w'
      go_simp
      with_reducible rfl
     rotate_left
     ·simp only [Act.put, lsT, lcZ, lcS, i64_w, i32_w]
      rfl
     refine pure_ (i := 26) (N := some 8) (v := ?_) (a' := ?_) #[true, true, true, true, true, true, true, true, true, true, true, true, true, true, true, true, true, true, true, true, true, true, true, true, true, true, true] rfl rfl (any_of HT_.out (by kernel_rfl)) (fun _ _ _ h => h) (Or.inl ⟨by rfl, ?_⟩) ?_ ?_
     rotate_left
     ·intro w'
      go_simp
      with_reducible rfl
     rotate_left
     ·simp only [Act.put, lsT, lcZ, lcS, i64_w, i32_w]
      rfl
     refine done_ (done_of HT_.out (by kernel_rfl)) ?_
     try go_wp2
     go_ret
     exact ⟨by first | rfl | (simp [errW_none, errW_some] <;> rfl) | (simp [*, errW_none, errW_some] <;> rfl), by repeat (first | (with_reducible first | exact HB.out | apply bAl | apply pBn | apply bD1 | refine bSt ?_ GE256.out | refine bSt ?_ GE257.out | refine bSt ?_ GE258.out | refine bSt ?_ GE259.out) | exact HB.out)⟩
    ·rw [if_neg c86] at H
     have c86b0 : decide ((wrap64 (t265 * t267)) < 0) = false := decide_eq_false c86
     clear c86
     obtain rfl := Option.some.inj H
     try go_wp2
     have n0_ := A0_.mk (kDr BK256.out)
     have n1_ := A0_.mk (kDr BK257.out)
     have n2_ := A0_.mk (kDr BK258.out)
     have n3_ := A0_.mk (kDr BK259.out)
     have n4_ := A0_.mk (bD1 HB.out)
     clear BK256
     clear BK257
     clear BK258
     clear BK259
     clear HB
     have BK256 := n0_
     have BK257 := n1_
     have BK258 := n2_
     have BK259 := n3_
     have HB := n4_
     clear n0_ n1_ n2_ n3_ n4_
     refine start_ (n := 27) (S := fun w' => w'.cell? ⟨gb256, 0, none⟩ = some (.int .i64 a0_0) ∧ w'.cell? ⟨gb256, 1, none⟩ = some (.int .i64 a0_1) ∧ w'.cell? ⟨gb257, 0, none⟩ = some (.int .i64 a1_0) ∧ w'.cell? ⟨gb257, 1, none⟩ = some (.int .i64 a1_1) ∧ w'.cell? ⟨gb258, 0, none⟩ = some (.int .i64 a2_0) ∧ w'.cell? ⟨gb258, 1, none⟩ = some (.int .i64 a2_1) ∧ w'.cell? ⟨gb259, 0, none⟩ = some (.int .i64 a3_0) ∧ w'.cell? ⟨gb259, 1, none⟩ = some (.int .i64 a3_1)) (ds := []) #[false, false, false, false, false, false, false, false, false, false, false, false, false, false, false, false, false, false, false, false, false, false, false, false, false, false, false] (by kernel_rfl) rfl rfl ⟨(kCe BK256.out 0).trans rfl, (kCe BK256.out 1).trans rfl, (kCe BK257.out 0).trans rfl, (kCe BK257.out 1).trans rfl, (kCe BK258.out 0).trans rfl, (kCe BK258.out 1).trans rfl, (kCe BK259.out 0).trans rfl, (kCe BK259.out 1).trans rfl⟩ (fun hHeld => ?_); refine with_tabW windhoverref09_Common.tab3 windhoverref09_Common.bits3 (fun HT_ HW_ => ?_)
     generalize wc.drew = w96 at BK256 BK257 BK258 BK259 HB hHeld ⊢
     refine take_ (i := 0) (N := some 31) (v := ?_) (a' := ?_) #[true, false, false, false, false, false, false, false, false, false, false, false, false, false, false, false, false, false, false, false, false, false, false, false, false, false, false] rfl rfl (take_ofW HT_.out HW_.out (by kernel_rfl)) (fun _ _ _ h => h) (Or.inl ⟨by rfl, ?_⟩) hHeld ?_ ?_
     rotate_left
     ·rintro w' ⟨s0, s1, s2, s3, s4, s5, s6, s7⟩
      go_simp
      with_reducible rfl
     rotate_left
     ·simp only [Act.put, lsT, lcZ, lcS, i64_w, i32_w]
      rfl
     refine take_ (i := 1) (N := some 32) (v := ?_) (a' := ?_) #[true, true, false, false, false, false, false, false, false, false, false, false, false, false, false, false, false, false, false, false, false, false, false, false, false, false, false] rfl rfl (take_ofW HT_.out HW_.out (by kernel_rfl)) (fun _ _ _ h => h) (Or.inl ⟨by rfl, ?_⟩) hHeld ?_ ?_
     rotate_left
     ·rintro w' ⟨s0, s1, s2, s3, s4, s5, s6, s7⟩
      go_simp
      with_reducible rfl
     rotate_left
     ·simp only [Act.put, lsT, lcZ, lcS, i64_w, i32_w]
      rfl
     refine take_ (i := 2) (N := some 33) (v := ?_) (a' := ?_) #[true, true, true, false, false, false, false, false, false, false, false, false, false, false, false, false, false, false, false, false, false, false, false, false, false, false, false] rfl rfl (take_ofW HT_.out HW_.out (by kernel_rfl)) (fun _ _ _ h => h) (Or.inl ⟨by rfl, ?_⟩) hHeld ?_ ?_
     rotate_left
     ·rintro w' ⟨s0, s1, s2, s3, s4, s5, s6, s7⟩
      go_simp
      with_reducible rfl
     rotate_left
     ·simp only [Act.put, lsT, lcZ, lcS, i64_w, i32_w]
      rfl
     refine take_ (i := 5) (N := some 36) (v := ?_) (a' := ?_) #[true, true, true, false, false, true, false, false, false, false, false, false, false, false, false, false, false, false, false, false, false, false, false, false, false, false, false] rfl rfl (take_ofW HT_.out HW_.out (by kernel_rfl)) (fun _ _ _ h => h) (Or.inl ⟨by rfl, ?_⟩) hHeld ?_ ?_
     rotate_left
     ·rintro w' ⟨s0, s1, s2, s3, s4, s5, s6, s7⟩
      go_simp
      with_reducible rfl
     rotate_left
     ·simp only [Act.put, lsT, lcZ, lcS, i64_w, i32_w]
      rfl
     refine take_ (i := 6) (N := some 37) (v := ?_) (a' := ?_) #[true, true, true, false, false, true, true, false, false, false, false, false, false, false, false, false, false, false, false, false, false, false, false, false, false, false, false] rfl rfl (take_ofW HT_.out HW_.out (by kernel_rfl)) (fun _ _ _ h => h) (Or.inl ⟨by rfl, ?_⟩) hHeld ?_ ?_
     rotate_left
     ·rintro w' ⟨s0, s1, s2, s3, s4, s5, s6, s7⟩
      go_simp
      with_reducible rfl
     rotate_left
     ·simp only [Act.put, lsT, lcZ, lcS, i64_w, i32_w]
      rfl
     refine take_ (i := 7) (N := some 38) (v := ?_) (a' := ?_) #[true, true, true, false, false, true, true, true, false, false, false, false, false, false, false, false, false, false, false, false, false, false, false, false, false, false, false] rfl rfl (take_ofW HT_.out HW_.out (by kernel_rfl)) (fun _ _ _ h => h) (Or.inl ⟨by rfl, ?_⟩) hHeld ?_ ?_
     rotate_left
     ·rintro w' ⟨s0, s1, s2, s3, s4, s5, s6, s7⟩
      go_simp
      with_reducible rfl
     rotate_left
     ·simp only [Act.put, lsT, lcZ, lcS, i64_w, i32_w]
      rfl
     refine one_ (i := 3) (N := some 34) #[true, true, true, true, false, true, true, true, false, false, false, false, false, false, false, false, false, false, false, false, false, false, false, false, false, false, false] rfl rfl (one_of HT_.out (by kernel_rfl)) (by decide) (fun K hK => ?_)
     refine goes_ Try.func38 (by kernel_rfl) rfl #[.agg #[.int .i64 a0_0, .int .i64 a0_1], .agg #[.int .i64 a1_0, .int .i64 a1_1], .agg #[.int .i64 a2_0, .int .i64 a2_1]] (by rfl) rfl rfl (by (try simp only [List.map_toArray, List.map_cons, List.map_nil]); first | done | rfl | (simp only [List.length_drop, List.length_take]; rfl)) ?_
     with_reducible refine (windhoverref09_Cross.calls a0_0 a0_1 a1_0 a1_1 a2_0 a2_1 t264 _ A82.out).mono ?_
     rintro e w97 ⟨rfl, hb⟩
     refine ⟨_, rfl, ?_⟩
     have n0_ := A0_.mk (kBe (g := gb256) (o := .cells #[.int .i64 a0_0, .int .i64 a0_1] 23 (0, 0)) (by (with_reducible repeat (first | refine kDn ?_ _ | refine kDr ?_ | refine kAl ?_ _)); exact BK256.out) hb)
     have n1_ := A0_.mk (kBe (g := gb257) (o := .cells #[.int .i64 a1_0, .int .i64 a1_1] 23 (0, 0)) (by (with_reducible repeat (first | refine kDn ?_ _ | refine kDr ?_ | refine kAl ?_ _)); exact BK257.out) hb)
     have n2_ := A0_.mk (kBe (g := gb258) (o := .cells #[.int .i64 a2_0, .int .i64 a2_1] 23 (0, 0)) (by (with_reducible repeat (first | refine kDn ?_ _ | refine kDr ?_ | refine kAl ?_ _)); exact BK258.out) hb)
     have n3_ := A0_.mk (kBe (g := gb259) (o := .cells #[.int .i64 a3_0, .int .i64 a3_1] 23 (0, 0)) (by (with_reducible repeat (first | refine kDn ?_ _ | refine kDr ?_ | refine kAl ?_ _)); exact BK259.out) hb)
     have n4_ := A0_.mk (bSp (by repeat (first | (with_reducible first | exact HB.out | apply bAl | apply pBn | apply bD1 | refine bSt ?_ GE256.out | refine bSt ?_ GE257.out | refine bSt ?_ GE258.out | refine bSt ?_ GE259.out) | exact HB.out)) hb)
     clear BK256
     clear BK257
     clear BK258
     clear BK259
     clear HB
     have BK256 := n0_
     have BK257 := n1_
     have BK258 := n2_
     have BK259 := n3_
     have HB := n4_
     clear n0_ n1_ n2_ n3_ n4_
     (try clear hb)
     (try clear hb2)
     (try clear hk)
     (try clear hi)
     refine hK.out _ _ ⟨(kCe BK256.out 0).trans rfl, (kCe BK256.out 1).trans rfl, (kCe BK257.out 0).trans rfl, (kCe BK257.out 1).trans rfl, (kCe BK258.out 0).trans rfl, (kCe BK258.out 1).trans rfl, (kCe BK259.out 0).trans rfl, (kCe BK259.out 1).trans rfl⟩ (fun hHeld => ?_)
     clear hK K
     refine norm_ (a' := ?_) ?_ ?_
     rotate_left
     ·show Act.put _ (some 34) _ = _
      simp only [Act.put, lsT, lcZ, lcS, i64_w, i32_w]
      rfl
     refine one_ (i := 4) (N := some 35) #[true, true, true, true, true, true, true, true, false, false, false, false, false, false, false, false, false, false, false, false, false, false, false, false, false, false, false] rfl rfl (one_of HT_.out (by kernel_rfl)) (by decide) (fun K hK => ?_)
     refine goes_ Try.func37 (by kernel_rfl) rfl #[.int .i64 t264] (by rfl) rfl rfl (by (try simp only [List.map_toArray, List.map_cons, List.map_nil]); first | done | rfl | (simp only [List.length_drop, List.length_take]; rfl)) ?_
     with_reducible refine (windhoverref09_sign.calls t264 t265 _ A83.out).mono ?_
     rintro e w' ⟨rfl, ⟨nd, rfl⟩⟩
     refine ⟨_, rfl, ?_⟩
     refine hK.out _ _ ⟨(kCe BK256.out 0).trans rfl, (kCe BK256.out 1).trans rfl, (kCe BK257.out 0).trans rfl, (kCe BK257.out 1).trans rfl, (kCe BK258.out 0).trans rfl, (kCe BK258.out 1).trans rfl, (kCe BK259.out 0).trans rfl, (kCe BK259.out 1).trans rfl⟩ (fun hHeld => ?_)
     clear hK K
     refine norm_ (a' := ?_) ?_ ?_
     rotate_left
     ·show Act.put _ (some 35) _ = _
      simp only [Act.put, lsT, lcZ, lcS, i64_w, i32_w]
      rfl
     refine one_ (i := 8) (N := some 39) #[true, true, true, true, true, true, true, true, true, false, false, false, false, false, false, false, false, false, false, false, false, false, false, false, false, false, false] rfl rfl (one_of HT_.out (by kernel_rfl)) (by decide) (fun K hK => ?_)
     refine goes_ Try.func38 (by kernel_rfl) rfl #[.agg #[.int .i64 a0_0, .int .i64 a0_1], .agg #[.int .i64 a1_0, .int .i64 a1_1], .agg #[.int .i64 a3_0, .int .i64 a3_1]] (by rfl) rfl rfl (by (try simp only [List.map_toArray, List.map_cons, List.map_nil]); first | done | rfl | (simp only [List.length_drop, List.length_take]; rfl)) ?_
     with_reducible refine (windhoverref09_Cross.calls a0_0 a0_1 a1_0 a1_1 a3_0 a3_1 t266 _ A84.out).mono ?_
     rintro e w98 ⟨rfl, hb⟩
     refine ⟨_, rfl, ?_⟩
     have n0_ := A0_.mk (kBe (g := gb256) (o := .cells #[.int .i64 a0_0, .int .i64 a0_1] 23 (0, 0)) (by (with_reducible repeat (first | refine kDn ?_ _ | refine kDr ?_ | refine kAl ?_ _)); exact BK256.out) hb)
     have n1_ := A0_.mk (kBe (g := gb257) (o := .cells #[.int .i64 a1_0, .int .i64 a1_1] 23 (0, 0)) (by (with_reducible repeat (first | refine kDn ?_ _ | refine kDr ?_ | refine kAl ?_ _)); exact BK257.out) hb)
     have n2_ := A0_.mk (kBe (g := gb258) (o := .cells #[.int .i64 a2_0, .int .i64 a2_1] 23 (0, 0)) (by (with_reducible repeat (first | refine kDn ?_ _ | refine kDr ?_ | refine kAl ?_ _)); exact BK258.out) hb)
     have n3_ := A0_.mk (kBe (g := gb259) (o := .cells #[.int .i64 a3_0, .int .i64 a3_1] 23 (0, 0)) (by (with_reducible repeat (first | refine kDn ?_ _ | refine kDr ?_ | refine kAl ?_ _)); exact BK259.out) hb)
     have n4_ := A0_.mk (bSp (by repeat (first | (with_reducible first | exact HB.out | apply bAl | apply pBn | apply bD1 | refine bSt ?_ GE256.out | refine bSt ?_ GE257.out | refine bSt ?_ GE258.out | refine bSt ?_ GE259.out) | exact HB.out)) hb)
     clear BK256
     clear BK257
     clear BK258
     clear BK259
     clear HB
     have BK256 := n0_
     have BK257 := n1_
     have BK258 := n2_
     have BK259 := n3_
     have HB := n4_
     clear n0_ n1_ n2_ n3_ n4_
     (try clear hb)
     (try clear hb2)
     (try clear hk)
     (try clear hi)
     refine hK.out _ _ ⟨(kCe BK256.out 0).trans rfl, (kCe BK256.out 1).trans rfl, (kCe BK257.out 0).trans rfl, (kCe BK257.out 1).trans rfl, (kCe BK258.out 0).trans rfl, (kCe BK258.out 1).trans rfl, (kCe BK259.out 0).trans rfl, (kCe BK259.out 1).trans rfl⟩ (fun hHeld => ?_)
     clear hK K
     refine norm_ (a' := ?_) ?_ ?_
     rotate_left
     ·show Act.put _ (some 39) _ = _
      simp only [Act.put, lsT, lcZ, lcS, i64_w, i32_w]
      rfl
     refine one_ (i := 9) (N := some 40) #[true, true, true, true, true, true, true, true, true, true, false, false, false, false, false, false, false, false, false, false, false, false, false, false, false, false, false] rfl rfl (one_of HT_.out (by kernel_rfl)) (by decide) (fun K hK => ?_)
     refine goes_ Try.func37 (by kernel_rfl) rfl #[.int .i64 t266] (by rfl) rfl rfl (by (try simp only [List.map_toArray, List.map_cons, List.map_nil]); first | done | rfl | (simp only [List.length_drop, List.length_take]; rfl)) ?_
     with_reducible refine (windhoverref09_sign.calls t266 t267 _ A85.out).mono ?_
     rintro e w' ⟨rfl, ⟨nd, rfl⟩⟩
     refine ⟨_, rfl, ?_⟩
     refine hK.out _ _ ⟨(kCe BK256.out 0).trans rfl, (kCe BK256.out 1).trans rfl, (kCe BK257.out 0).trans rfl, (kCe BK257.out 1).trans rfl, (kCe BK258.out 0).trans rfl, (kCe BK258.out 1).trans rfl, (kCe BK259.out 0).trans rfl, (kCe BK259.out 1).trans rfl⟩ (fun hHeld => ?_)
     clear hK K
     refine norm_ (a' := ?_) ?_ ?_
     rotate_left
     ·show Act.put _ (some 40) _ = _
      simp only [Act.put, lsT, lcZ, lcS, i64_w, i32_w]
      rfl
     refine pure_ (i := 10) (N := some 41) (v := ?_) (a' := ?_) #[true, true, true, true, true, true, true, true, true, true, true, false, false, false, false, false, false, false, false, false, false, false, false, false, false, false, false] rfl rfl (any_of HT_.out (by kernel_rfl)) (fun _ _ _ h => h) (Or.inl ⟨by rfl, ?_⟩) ?_ ?_
     rotate_left
     ·intro w'
      go_simp
      with_reducible rfl
     rotate_left
     ·simp only [Act.put, lsT, lcZ, lcS, i64_w, i32_w]
      rfl
     refine pure_ (i := 11) (N := some 42) (v := ?_) (a' := ?_) #[true, true, true, true, true, true, true, true, true, true, true, true, false, false, false, false, false, false, false, false, false, false, false, false, false, false, false] rfl rfl (any_of HT_.out (by kernel_rfl)) (fun _ _ _ h => h) (Or.inl ⟨by rfl, ?_⟩) ?_ ?_
     rotate_left
     ·intro w'
      go_simp
      with_reducible rfl
     rotate_left
     ·simp only [Act.put, lsT, lcZ, lcS, i64_w, i32_w]
      rfl
     refine pure_ (i := 12) (N := some 43) (v := ?_) (a' := ?_) #[true, true, true, true, true, true, true, true, true, true, true, true, true, false, false, false, false, false, false, false, false, false, false, false, false, false, false] rfl rfl (any_of HT_.out (by kernel_rfl)) (fun _ _ _ h => h) (Or.inl ⟨by rfl, ?_⟩) ?_ ?_
     rotate_left
     ·intro w'
      go_simp
      with_reducible rfl
     rotate_left
     ·simp only [Act.put, lsT, lcZ, lcS, i64_w, i32_w]
      rfl
     refine pure_ (i := 13) (N := some 44) (v := undef) (a' := ?_) #[true, true, true, true, true, true, true, true, true, true, true, true, true, true, false, false, false, false, false, false, false, false, false, false, false, false, false] rfl rfl (any_of HT_.out (by kernel_rfl)) (fun _ _ _ h => h) (Or.inr ⟨by rfl, rfl⟩) ?_ ?_
     rotate_left
     ·simp only [Act.put, lsT, lcZ, lcS, i64_w, i32_w]
      rfl
     refine pure_ (i := 14) (N := some 45) (v := undef) (a' := ?_) #[true, true, true, true, true, true, true, true, true, true, true, true, true, true, true, false, false, false, false, false, false, false, false, false, false, false, false] rfl rfl (any_of HT_.out (by kernel_rfl)) (fun _ _ _ h => h) (Or.inr ⟨by rfl, rfl⟩) ?_ ?_
     rotate_left
     ·simp only [Act.put, lsT, lcZ, lcS, i64_w, i32_w]
      rfl
     refine pure_ (i := 15) (N := some 46) (v := undef) (a' := ?_) #[true, true, true, true, true, true, true, true, true, true, true, true, true, true, true, true, false, false, false, false, false, false, false, false, false, false, false] rfl rfl (any_of HT_.out (by kernel_rfl)) (fun _ _ _ h => h) (Or.inr ⟨by rfl, rfl⟩) ?_ ?_
     rotate_left
     ·simp only [Act.put, lsT, lcZ, lcS, i64_w, i32_w]
      rfl
     refine pure_ (i := 16) (N := some 47) (v := undef) (a' := ?_) #[true, true, true, true, true, true, true, true, true, true, true, true, true, true, true, true, true, false, false, false, false, false, false, false, false, false, false] rfl rfl (any_of HT_.out (by kernel_rfl)) (fun _ _ _ h => h) (Or.inr ⟨by rfl, rfl⟩) ?_ ?_
     rotate_left
     ·simp only [Act.put, lsT, lcZ, lcS, i64_w, i32_w]
      rfl
     refine pure_ (i := 17) (N := some 48) (v := undef) (a' := ?_) #[true, true, true, true, true, true, true, true, true, true, true, true, true, true, true, true, true, true, false, false, false, false, false, false, false, false, false] rfl rfl (any_of HT_.out (by kernel_rfl)) (fun _ _ _ h => h) (Or.inr ⟨by rfl, rfl⟩) ?_ ?_
     rotate_left
     ·simp only [Act.put, lsT, lcZ, lcS, i64_w, i32_w]
      rfl
     refine pure_ (i := 18) (N := some 49) (v := undef) (a' := ?_) #[true, true, true, true, true, true, true, true, true, true, true, true, true, true, true, true, true, true, true, false, false, false, false, false, false, false, false] rfl rfl (any_of HT_.out (by kernel_rfl)) (fun _ _ _ h => h) (Or.inr ⟨by rfl, rfl⟩) ?_ ?_
     rotate_left
     ·simp only [Act.put, lsT, lcZ, lcS, i64_w, i32_w]
      rfl
     refine pure_ (i := 19) (N := some 50) (v := undef) (a' := ?_) #[true, true, true, true, true, true, true, true, true, true, true, true, true, true, true, true, true, true, true, true, false, false, false, false, false, false, false] rfl rfl (any_of HT_.out (by kernel_rfl)) (fun _ _ _ h => h) (Or.inr ⟨by rfl, rfl⟩) ?_ ?_
     rotate_left
     ·simp only [Act.put, lsT, lcZ, lcS, i64_w, i32_w]
      rfl
     refine pure_ (i := 20) (N := some 51) (v := undef) (a' := ?_) #[true, true, true, true, true, true, true, true, true, true, true, true, true, true, true, true, true, true, true, true, true, false, false, false, false, false, false] rfl rfl (any_of HT_.out (by kernel_rfl)) (fun _ _ _ h => h) (Or.inr ⟨by rfl, rfl⟩) ?_ ?_
     rotate_left
     ·simp only [Act.put, lsT, lcZ, lcS, i64_w, i32_w]
      rfl
     refine pure_ (i := 21) (N := some 52) (v := undef) (a' := ?_) #[true, true, true, true, true, true, true, true, true, true, true, true, true, true, true, true, true, true, true, true, true, true, false, false, false, false, false] rfl rfl (any_of HT_.out (by kernel_rfl)) (fun _ _ _ h => h) (Or.inr ⟨by rfl, rfl⟩) ?_ ?_
     rotate_left
     ·simp only [Act.put, lsT, lcZ, lcS, i64_w, i32_w]
      rfl
     refine pure_ (i := 22) (N := some 53) (v := undef) (a' := ?_) #[true, true, true, true, true, true, true, true, true, true, true, true, true, true, true, true, true, true, true, true, true, true, true, false, false, false, false] rfl rfl (any_of HT_.out (by kernel_rfl)) (fun _ _ _ h => h) (Or.inr ⟨by rfl, rfl⟩) ?_ ?_
     rotate_left
     ·simp only [Act.put, lsT, lcZ, lcS, i64_w, i32_w]
      rfl
     refine pure_ (i := 23) (N := some 54) (v := undef) (a' := ?_) #[true, true, true, true, true, true, true, true, true, true, true, true, true, true, true, true, true, true, true, true, true, true, true, true, false, false, false] rfl rfl (any_of HT_.out (by kernel_rfl)) (fun _ _ _ h => h) (Or.inr ⟨by rfl, rfl⟩) ?_ ?_
     rotate_left
     ·simp only [Act.put, lsT, lcZ, lcS, i64_w, i32_w]
      rfl
     refine pure_ (i := 24) (N := some 55) (v := undef) (a' := ?_) #[true, true, true, true, true, true, true, true, true, true, true, true, true, true, true, true, true, true, true, true, true, true, true, true, true, false, false] rfl rfl (any_of HT_.out (by kernel_rfl)) (fun _ _ _ h => h) (Or.inr ⟨by rfl, rfl⟩) ?_ ?_
     rotate_left
     ·simp only [Act.put, lsT, lcZ, lcS, i64_w, i32_w]
      rfl
     refine pure_ (i := 25) (N := some 56) (v := ?_) (a' := ?_) #[true, true, true, true, true, true, true, true, true, true, true, true, true, true, true, true, true, true, true, true, true, true, true, true, true, true, false] rfl rfl (any_of HT_.out (by kernel_rfl)) (fun _ _ _ h => h) (Or.inl ⟨by rfl, ?_⟩) ?_ ?_
     rotate_left
     ·intro w'
      go_simp
      with_reducible rfl
     rotate_left
     ·simp only [Act.put, lsT, lcZ, lcS, i64_w, i32_w]
      rfl
     refine pure_ (i := 26) (N := some 8) (v := ?_) (a' := ?_) #[true, true, true, true, true, true, true, true, true, true, true, true, true, true, true, true, true, true, true, true, true, true, true, true, true, true, true] rfl rfl (any_of HT_.out (by kernel_rfl)) (fun _ _ _ h => h) (Or.inl ⟨by rfl, ?_⟩) ?_ ?_
     rotate_left
     ·intro w'
      go_simp
      with_reducible rfl
     rotate_left
     ·simp only [Act.put, lsT, lcZ, lcS, i64_w, i32_w]
      rfl
     refine done_ (done_of HT_.out (by kernel_rfl)) ?_
     try go_wp2
     go_ret
     exact ⟨by first | rfl | (simp [errW_none, errW_some] <;> rfl) | (simp [*, errW_none, errW_some] <;> rfl), by repeat (first | (with_reducible first | exact HB.out | apply bAl | apply pBn | apply bD1 | refine bSt ?_ GE256.out | refine bSt ?_ GE257.out | refine bSt ?_ GE258.out | refine bSt ?_ GE259.out) | exact HB.out)⟩

end Go.Proofs.Ytannklfnfacpeaa.X
