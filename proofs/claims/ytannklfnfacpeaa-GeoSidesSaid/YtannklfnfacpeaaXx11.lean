-- Written by a program of this repo (xp.py), over the print of the kit.
import Derived.Test.YtannklfnfacpeaaXx0
import Derived.Test.YtannklfnfacpeaaXx6
import Derived.Test.YtannklfnfacpeaaXx7
import Derived.Test.YtannklfnfacpeaaXx10
import Derived.Test.YtannklfnfacpeaaXHKeptP
import Derived.Test.YtannklfnfacpeaaXHSide
namespace Go.Proofs.Ytannklfnfacpeaa.X
open Go.RowKit Go.Proofs.YtannklfnfacpeaaW.PrintWords Go.Proofs.YtannklfnfacpeaaW.PrintLast Go.Proofs.YtannklfnfacpeaaW.PrintMore
attribute [local go_sem] max2_int min2_int max_two min_two max_three min_three max_four min_four   -- for this text's walks alone
set_option linter.unusedVariables false
set_option linter.unusedSimpArgs false

/-! ### windhoverref09_Inside: function 48 -/
mutual
def windhoverref09_Inside.l0 : Nat → List (S23) → Int → Int → Int → Int → Option (Int)
 | 0, _, _, _, _, _ => none
 | k + 1, x0, x5, x6, x294000, x294001 => if x6 < (x0.length : Int) then (if 0 ≤ x6 then ((windhoverref09_next.f x0 x6).bind fun bt296 => ((windhoverref09_On.f k ((rd_T23 x0 x6).f0) ((rd_T23 x0 x6).f1) bt296.1 bt296.2 x294000 x294001).bind fun t299 => (if t299 = true then (some 0) else (if ((decide (((rd_T23 x0 x6).f1) ≤ x294001)) == (decide (bt296.2 ≤ x294001))) = true then (windhoverref09_Inside.l0 k x0 x5 (wrap64 (x6 + 1)) x294000 x294001) else (if ((rd_T23 x0 x6).f1) > bt296.2 then (windhoverref09_Inside.j1 k x0 x5 x6 x294000 x294001 bt296.1 bt296.2 ((rd_T23 x0 x6).f0) ((rd_T23 x0 x6).f1)) else (windhoverref09_Inside.j1 k x0 x5 x6 x294000 x294001 ((rd_T23 x0 x6).f0) ((rd_T23 x0 x6).f1) bt296.1 bt296.2)))))) else (none)) else (some x5)
def windhoverref09_Inside.j1 : Nat → List (S23) → Int → Int → Int → Int → Int → Int → Int → Int → Option (Int)
 | 0, _, _, _, _, _, _, _, _, _ => none
 | k + 1, x0, x5, x6, x294000, x294001, x296000, x296001, x299000, x299001 => (windhoverref09_Cross.f x296000 x296001 x299000 x299001 x294000 x294001).bind fun t301 => (if t301 > 0 then (windhoverref09_Inside.l0 k x0 (wrap64 (-x5)) (wrap64 (x6 + 1)) x294000 x294001) else (windhoverref09_Inside.l0 k x0 x5 (wrap64 (x6 + 1)) x294000 x294001))
end
def windhoverref09_Inside.f (k : Nat) (l0 : List (S23)) (a1_0 : Int) (a1_1 : Int) : Option (Int) := windhoverref09_Inside.l0 k l0 (-1) 0 a1_0 a1_1
theorem windhoverref09_Inside.mono_l : ∀ k, (∀ y0 y1 y2 y3 y4, LeO (windhoverref09_Inside.l0 k y0 y1 y2 y3 y4) (windhoverref09_Inside.l0 (k + 1) y0 y1 y2 y3 y4)) ∧ (∀ y0 y1 y2 y3 y4 y5 y6 y7 y8, LeO (windhoverref09_Inside.j1 k y0 y1 y2 y3 y4 y5 y6 y7 y8) (windhoverref09_Inside.j1 (k + 1) y0 y1 y2 y3 y4 y5 y6 y7 y8))
 | 0 => ⟨fun _ _ _ _ _ r h => by simp [windhoverref09_Inside.l0] at h, fun _ _ _ _ _ _ _ _ _ r h => by simp [windhoverref09_Inside.j1] at h⟩
 | k + 1 => by
  obtain ⟨ih0, ih1⟩ := windhoverref09_Inside.mono_l k
  refine ⟨?_, ?_⟩
  ·intro y0 y1 y2 y3 y4
   unfold windhoverref09_Inside.l0
   repeat' first
   | (with_reducible exact ih0 _ _ _ _ _)
   | (with_reducible exact ih1 _ _ _ _ _ _ _ _ _)
   | (with_reducible exact windhoverref09_On.mono _ _ _ _ _ _ _)
   | (with_reducible exact LeO.refl _)
   | (with_reducible exact LeO.none _)
   | (with_reducible refine LeO.ite ?_ ?_)
   | (with_reducible refine LeO.bind ?_ (fun _ => ?_))
   | exact ih0 _ _ _ _ _
   | exact ih1 _ _ _ _ _ _ _ _ _
   | exact windhoverref09_On.mono _ _ _ _ _ _ _
   | exact LeO.none _
   | refine LeO.ite ?_ ?_
   | refine LeO.bind ?_ (fun _ => ?_)
  ·intro y0 y1 y2 y3 y4 y5 y6 y7 y8
   unfold windhoverref09_Inside.j1
   repeat' first
   | (with_reducible exact ih0 _ _ _ _ _)
   | (with_reducible exact ih1 _ _ _ _ _ _ _ _ _)
   | (with_reducible exact windhoverref09_On.mono _ _ _ _ _ _ _)
   | (with_reducible exact LeO.refl _)
   | (with_reducible exact LeO.none _)
   | (with_reducible refine LeO.ite ?_ ?_)
   | (with_reducible refine LeO.bind ?_ (fun _ => ?_))
   | exact ih0 _ _ _ _ _
   | exact ih1 _ _ _ _ _ _ _ _ _
   | exact windhoverref09_On.mono _ _ _ _ _ _ _
   | exact LeO.none _
   | refine LeO.ite ?_ ?_
   | refine LeO.bind ?_ (fun _ => ?_)
theorem windhoverref09_Inside.mono : ∀ a0 a1 a2 k, LeO (windhoverref09_Inside.f k a0 a1 a2) (windhoverref09_Inside.f (k + 1) a0 a1 a2) := by
 intro a0 a1 a2 k
 obtain ⟨ih0, ih1⟩ := windhoverref09_Inside.mono_l k
 unfold windhoverref09_Inside.f
 repeat' first
   | (with_reducible exact ih0 _ _ _ _ _)
   | (with_reducible exact ih1 _ _ _ _ _ _ _ _ _)
   | (with_reducible exact windhoverref09_On.mono _ _ _ _ _ _ _)
   | (with_reducible exact LeO.refl _)
   | (with_reducible exact LeO.none _)
   | (with_reducible refine LeO.ite ?_ ?_)
   | (with_reducible refine LeO.bind ?_ (fun _ => ?_))
   | exact ih0 _ _ _ _ _
   | exact ih1 _ _ _ _ _ _ _ _ _
   | exact windhoverref09_On.mono _ _ _ _ _ _ _
   | exact LeO.none _
   | refine LeO.ite ?_ ?_
   | refine LeO.bind ?_ (fun _ => ?_)
set_option maxHeartbeats 8000000 in
set_option maxRecDepth 100000 in
theorem windhoverref09_Inside.calls (k : Nat) (A0 : Option Addr) (c0 : Nat) (l0 : List (S23)) (a1_0 : Int) (a1_1 : Int) (r : Int) (w : World) (hr0 : Kd.C k23 w A0 l0.length l0) (hc0 : l0.length ≤ c0) (h : windhoverref09_Inside.f k l0 a1_0 a1_1 = some r) :
  Calls Try.prog 48 #[.slice A0 l0.length c0, .agg #[.int .i64 a1_0, .int .i64 a1_1]] w fun e w' => e = .returned (.int .i64 r) ∧ Below w.heap.size w w' := by
 have hu23 := Try.underlying23
 have HR0 := A0_.mk hr0
 have HC0 := A0_.mk hc0
 clear hr0 hc0
 have HB := A0_.mk (Below.refl w.heap.size w)
 have H : (windhoverref09_Inside.l0 k l0 (-1) 0 a1_0 a1_1) = some r := h
 clear h
 have H' := A0_.mk H
 clear H
 go_enter Try.func48, Try.ntmps48
 go_wp2_with (first | ((with_reducible refine gate_dst (N := 3) rfl ?_); refine box_event ?hg (N := 3) ?hd (cs := #[.int .i64 a1_0, .int .i64 a1_1]) (t := 23) ?hr ?_; (case hd => rfl); (case hg => rfl); (case hr => first | (go_simp; done) | (go_simp; rfl)); intro gb293 hg w3 hbox hb; have n0_ := A0_.mk (bSp (by repeat (first | (with_reducible first | exact HB.out | apply bAl | apply pBn | apply bD1) | exact HB.out)) hb); have n1_ := A0_.mk (hbox); have n2_ := A0_.mk ((by rw [hg]; exact (bSz (by repeat (first | (with_reducible first | exact HB.out | apply bAl | apply pBn | apply bD1) | exact HB.out))) : w.heap.size ≤ gb293)); have n3_ := A0_.mk ((by rw [hg]; exact (bSz (by repeat (first | (with_reducible first | exact HB.out | apply bAl | apply pBn | apply bD1) | exact HB.out))) : w.heap.size ≤ gb293)); clear HB; have HB := n0_; have BK293 := n1_; have GW293 := n2_; have GE293 := n3_; clear n0_ n1_ n2_ n3_; clear hb hbox hg))
 go_loopg [5, 6] k (fun kq v5 v6 w' => ∃ (x5_1 : Int) (x6_1 : Int), v5 = .int .i64 x5_1 ∧ v6 = .int .i64 x6_1 ∧ A0_ (windhoverref09_Inside.l0 kq l0 x5_1 x6_1 a1_0 a1_1 = some r) ∧ A0_ (kq ≤ k) ∧ A0_ (w'.heap[gb293]? = some (.cells #[.int .i64 a1_0, .int .i64 a1_1] 23 (0, 0))) ∧ A0_ (Below w.heap.size w w'))
 case atStart => exact ⟨((-1)), (0), (by first | rfl | (simp; done) | (simp [*]; done)), (by first | rfl | (simp; done) | (simp [*]; done)), H', ⟨Nat.le_refl _⟩, ⟨by (with_reducible repeat (first | refine kDn ?_ _ | refine kDr ?_ | refine kAl ?_ _)); exact BK293.out⟩, ⟨by repeat (first | (with_reducible first | exact HB.out | apply bAl | apply pBn | apply bD1 | refine bSt ?_ GE293.out) | exact HB.out)⟩⟩
 case round =>
  clear H'
  try clear p2
  obtain ⟨x5_1, x6_1, rfl, rfl, HA, HK1, BK293, HB⟩ := hrel
  cases gk with
  | zero => exact absurd HA.out (by simp [windhoverref09_Inside.l0])
  | succ k1 =>
   have H := HA.out
   clear HA
   simp only [windhoverref09_Inside.l0] at H
   by_cases c4 : x6_1 < (l0.length : Int)
   ·rw [if_pos c4] at H
    have c4b0 : decide (x6_1 < (l0.length : Int)) = true := decide_eq_true c4
    clear c4
    by_cases c5 : 0 ≤ x6_1
    ·rw [if_pos c5] at H
     have c5b0 : decide (0 ≤ x6_1) = true := decide_eq_true c5
     clear c5
     replace H := Option.bind_eq_some_iff.mp H
     obtain ⟨⟨t296, t297⟩, A60, H⟩ := H
     replace H : ((windhoverref09_On.f k1 ((rd_T23 l0 x6_1).f0) ((rd_T23 l0 x6_1).f1) t296 t297 a1_0 a1_1).bind fun t299 => (if t299 = true then (some 0) else (if ((decide (((rd_T23 l0 x6_1).f1) ≤ a1_1)) == (decide (t297 ≤ a1_1))) = true then (windhoverref09_Inside.l0 k1 l0 x5_1 (wrap64 (x6_1 + 1)) a1_0 a1_1) else (if ((rd_T23 l0 x6_1).f1) > t297 then (windhoverref09_Inside.j1 k1 l0 x5_1 x6_1 a1_0 a1_1 t296 t297 ((rd_T23 l0 x6_1).f0) ((rd_T23 l0 x6_1).f1)) else (windhoverref09_Inside.j1 k1 l0 x5_1 x6_1 a1_0 a1_1 ((rd_T23 l0 x6_1).f0) ((rd_T23 l0 x6_1).f1) t296 t297))))) = some r := H
     have A6 := A0_.mk A60
     clear A60
     replace H := Option.bind_eq_some_iff.mp H
     obtain ⟨t299, A70, H⟩ := H
     replace H : (if t299 = true then (some 0) else (if ((decide (((rd_T23 l0 x6_1).f1) ≤ a1_1)) == (decide (t297 ≤ a1_1))) = true then (windhoverref09_Inside.l0 k1 l0 x5_1 (wrap64 (x6_1 + 1)) a1_0 a1_1) else (if ((rd_T23 l0 x6_1).f1) > t297 then (windhoverref09_Inside.j1 k1 l0 x5_1 x6_1 a1_0 a1_1 t296 t297 ((rd_T23 l0 x6_1).f0) ((rd_T23 l0 x6_1).f1)) else (windhoverref09_Inside.j1 k1 l0 x5_1 x6_1 a1_0 a1_1 ((rd_T23 l0 x6_1).f0) ((rd_T23 l0 x6_1).f1) t296 t297)))) = some r := H
     have A7 := A0_.mk A70
     clear A70
     by_cases c8 : t299 = true
     ·subst c8
      have H1 : (some 0) = some r := by rw [if_pos rfl] at H; exact H
      clear H
      have H := H1
      clear H1
      obtain rfl := Option.some.inj H
      have p294 : 0 ≤ (x6_1 : Int) := of_decide_eq_true (by first | (with_reducible assumption) | assumption)
      have q294 : x6_1 < (l0.length : Int) := of_decide_eq_true (by first | (with_reducible assumption) | assumption)
      obtain ⟨ad294, e294, hx294_0, hx294_1⟩ := at_T23 HR0.out x6_1 p294 q294
      cases e294
      replace hx294_0 := (HB.out.cell (World.block_lt_of_cell? w _ hx294_0)).trans hx294_0
      replace hx294_1 := (HB.out.cell (World.block_lt_of_cell? w _ hx294_1)).trans hx294_1
      replace p294 := eq_true p294
      replace q294 := eq_true q294
      go_wp2_with (first | ((with_reducible refine gate_dst (N := 7) rfl ?_); refine box_event ?hg (N := 7) ?hd (cs := #[.int .i64 0, .int .i64 0]) (t := 23) ?hr ?_; (case hd => rfl); (case hg => rfl); (case hr => first | (go_simp; done) | (go_simp; rfl)); intro gb295 hg w9 hbox hb; have n0_ := A0_.mk (kBe (g := gb293) (o := .cells #[.int .i64 a1_0, .int .i64 a1_1] 23 (0, 0)) (by (with_reducible repeat (first | refine kDn ?_ _ | refine kDr ?_ | refine kAl ?_ _)); exact BK293.out) hb); have n1_ := A0_.mk (bSp (by repeat (first | (with_reducible first | exact HB.out | apply bAl | apply pBn | apply bD1 | refine bSt ?_ GE293.out) | exact HB.out)) hb); have n2_ := A0_.mk (hbox); have n3_ := A0_.mk ((by rw [hg]; exact (bSz (by repeat (first | (with_reducible first | exact HB.out | apply bAl | apply pBn | apply bD1 | refine bSt ?_ GE293.out) | exact HB.out))) : w.heap.size ≤ gb295)); have n4_ := A0_.mk ((by rw [hg]; exact (bSz (by repeat (first | (with_reducible first | exact HB.out | apply bAl | apply pBn | apply bD1 | refine bSt ?_ GE293.out) | exact HB.out))) : w.heap.size ≤ gb295)); have n5_ := A0_.mk ((by rw [hg]; exact Nat.ne_of_lt (blk_lt (g := gb293) (o := .cells #[.int .i64 a1_0, .int .i64 a1_1] 23 (0, 0)) (by (with_reducible repeat (first | refine kDn ?_ _ | refine kDr ?_ | refine kAl ?_ _)); exact BK293.out)) : gb293 ≠ gb295)); have n6_ := A0_.mk ((by rw [hg]; exact Nat.ne_of_gt (blk_lt (g := gb293) (o := .cells #[.int .i64 a1_0, .int .i64 a1_1] 23 (0, 0)) (by (with_reducible repeat (first | refine kDn ?_ _ | refine kDr ?_ | refine kAl ?_ _)); exact BK293.out)) : gb295 ≠ gb293)); clear BK293; clear HB; have BK293 := n0_; have HB := n1_; have BK295 := n2_; have GW295 := n3_; have GE295 := n4_; have NB293_295 := n5_; have NB295_293 := n6_; clear n0_ n1_ n2_ n3_ n4_ n5_ n6_; clear hb hbox hg; have hnb10 := NB295_293.out; have hnc10 := NB293_295.out; have hcz11_0 : w9.cell? ⟨gb295, 0, none⟩ = some (.int .i64 0) := (kCe BK295.out 0).trans rfl; have hcz11_1 : w9.cell? ⟨gb295, 1, none⟩ = some (.int .i64 0) := (kCe BK295.out 1).trans rfl; have hfz11_0 := kFr BK295.out 0; have hfz11_1 := kFr BK295.out 1) | ((with_reducible refine gate_callee (f := 45) rfl ?_); refine goesL_ (some 22) rfl rfl Try.func45 (by kernel_rfl) rfl #[.slice (some ad294) l0.length c0, .int .i64 x6_1] rfl (by (try simp only [List.map_toArray, List.map_cons, List.map_nil]); first | done | rfl | (simp only [List.length_drop, List.length_take]; rfl)) ?_; (with_reducible refine (windhoverref09_next.calls _ _ l0 x6_1 t296 t297 _ ?side1 ?side2 A6.out).mono ?_); (case side1 => exact Kd.C_below HR0.out (by repeat (first | (with_reducible first | exact HB.out | apply bAl | apply pBn | apply bD1 | refine bSt ?_ GE293.out | refine bSt ?_ GE295.out) | exact HB.out))); (case side2 => exact HC0.out); rintro e w12 ⟨rfl, hb⟩; refine ⟨_, rfl, ?_⟩; have n0_ := A0_.mk (kBe (g := gb293) (o := .cells #[.int .i64 a1_0, .int .i64 a1_1] 23 (0, 0)) (by (with_reducible repeat (first | refine kDn ?_ _ | refine kDr ?_ | refine kAl ?_ _)); refine blk_far ?_ NB293_295.out _; (with_reducible repeat (first | refine kDn ?_ _ | refine kDr ?_ | refine kAl ?_ _)); refine blk_far ?_ NB293_295.out _; (with_reducible repeat (first | refine kDn ?_ _ | refine kDr ?_ | refine kAl ?_ _)); exact BK293.out) hb); have n1_ := A0_.mk (kBe (g := gb295) (o := .cells #[.int .i64 ((rd_T23 l0 x6_1).f0), .int .i64 ((rd_T23 l0 x6_1).f1)] 23 (0, 0)) (by (with_reducible repeat (first | refine kDn ?_ _ | refine kDr ?_ | refine kAl ?_ _)); refine blk_put (cs := #[.int .i64 ((rd_T23 l0 x6_1).f0), .int .i64 0]) ?_ 1 _ rfl; (with_reducible repeat (first | refine kDn ?_ _ | refine kDr ?_ | refine kAl ?_ _)); refine blk_put (cs := #[.int .i64 0, .int .i64 0]) ?_ 0 _ rfl; (with_reducible repeat (first | refine kDn ?_ _ | refine kDr ?_ | refine kAl ?_ _)); exact BK295.out) hb); have n2_ := A0_.mk (bSp (by repeat (first | (with_reducible first | exact HB.out | apply bAl | apply pBn | apply bD1 | refine bSt ?_ GE293.out | refine bSt ?_ GE295.out) | exact HB.out)) hb); clear BK293; clear BK295; clear HB; have BK293 := n0_; have BK295 := n1_; have HB := n2_; clear n0_ n1_ n2_; (try clear hb); (try clear hb2); (try clear hk); (try clear hi)) | ((with_reducible refine gate_dst (N := 8) rfl ?_); refine box_event ?hg (N := 8) ?hd (cs := #[.int .i64 0, .int .i64 0]) (t := 23) ?hr ?_; (case hd => rfl); (case hg => rfl); (case hr => first | (go_simp; done) | (go_simp; rfl)); intro gb298 hg w13 hbox hb; have n0_ := A0_.mk (kBe (g := gb293) (o := .cells #[.int .i64 a1_0, .int .i64 a1_1] 23 (0, 0)) (by (with_reducible repeat (first | refine kDn ?_ _ | refine kDr ?_ | refine kAl ?_ _)); exact BK293.out) hb); have n1_ := A0_.mk (kBe (g := gb295) (o := .cells #[.int .i64 ((rd_T23 l0 x6_1).f0), .int .i64 ((rd_T23 l0 x6_1).f1)] 23 (0, 0)) (by (with_reducible repeat (first | refine kDn ?_ _ | refine kDr ?_ | refine kAl ?_ _)); exact BK295.out) hb); have n2_ := A0_.mk (bSp (by repeat (first | (with_reducible first | exact HB.out | apply bAl | apply pBn | apply bD1 | refine bSt ?_ GE293.out | refine bSt ?_ GE295.out) | exact HB.out)) hb); have n3_ := A0_.mk (hbox); have n4_ := A0_.mk ((by rw [hg]; exact (bSz (by repeat (first | (with_reducible first | exact HB.out | apply bAl | apply pBn | apply bD1 | refine bSt ?_ GE293.out | refine bSt ?_ GE295.out) | exact HB.out))) : w.heap.size ≤ gb298)); have n5_ := A0_.mk ((by rw [hg]; exact (bSz (by repeat (first | (with_reducible first | exact HB.out | apply bAl | apply pBn | apply bD1 | refine bSt ?_ GE293.out | refine bSt ?_ GE295.out) | exact HB.out))) : w.heap.size ≤ gb298)); have n6_ := A0_.mk ((by rw [hg]; exact Nat.ne_of_lt (blk_lt (g := gb293) (o := .cells #[.int .i64 a1_0, .int .i64 a1_1] 23 (0, 0)) (by (with_reducible repeat (first | refine kDn ?_ _ | refine kDr ?_ | refine kAl ?_ _)); exact BK293.out)) : gb293 ≠ gb298)); have n7_ := A0_.mk ((by rw [hg]; exact Nat.ne_of_gt (blk_lt (g := gb293) (o := .cells #[.int .i64 a1_0, .int .i64 a1_1] 23 (0, 0)) (by (with_reducible repeat (first | refine kDn ?_ _ | refine kDr ?_ | refine kAl ?_ _)); exact BK293.out)) : gb298 ≠ gb293)); have n8_ := A0_.mk ((by rw [hg]; exact Nat.ne_of_lt (blk_lt (g := gb295) (o := .cells #[.int .i64 ((rd_T23 l0 x6_1).f0), .int .i64 ((rd_T23 l0 x6_1).f1)] 23 (0, 0)) (by (with_reducible repeat (first | refine kDn ?_ _ | refine kDr ?_ | refine kAl ?_ _)); exact BK295.out)) : gb295 ≠ gb298)); have n9_ := A0_.mk ((by rw [hg]; exact Nat.ne_of_gt (blk_lt (g := gb295) (o := .cells #[.int .i64 ((rd_T23 l0 x6_1).f0), .int .i64 ((rd_T23 l0 x6_1).f1)] 23 (0, 0)) (by (with_reducible repeat (first | refine kDn ?_ _ | refine kDr ?_ | refine kAl ?_ _)); exact BK295.out)) : gb298 ≠ gb295)); clear BK293; clear BK295; clear HB; have BK293 := n0_; have BK295 := n1_; have HB := n2_; have BK298 := n3_; have GW298 := n4_; have GE298 := n5_; have NB293_298 := n6_; have NB298_293 := n7_; have NB295_298 := n8_; have NB298_295 := n9_; clear n0_ n1_ n2_ n3_ n4_ n5_ n6_ n7_ n8_ n9_; clear hb hbox hg; have hnb14 := NB298_293.out; have hnc14 := NB293_298.out; have hnb15 := NB298_295.out; have hnc15 := NB295_298.out; have hcz16_0 : w13.cell? ⟨gb298, 0, none⟩ = some (.int .i64 0) := (kCe BK298.out 0).trans rfl; have hcz16_1 : w13.cell? ⟨gb298, 1, none⟩ = some (.int .i64 0) := (kCe BK298.out 1).trans rfl; have hfz16_0 := kFr BK298.out 0; have hfz16_1 := kFr BK298.out 1; have hcz17_0 : w13.cell? ⟨gb295, 0, none⟩ = some (.int .i64 ((rd_T23 l0 x6_1).f0)) := (kCe BK295.out 0).trans rfl; have hcz17_1 : w13.cell? ⟨gb295, 1, none⟩ = some (.int .i64 ((rd_T23 l0 x6_1).f1)) := (kCe BK295.out 1).trans rfl; have hfz17_0 := kFr BK295.out 0; have hfz17_1 := kFr BK295.out 1; have hcz18_0 : w13.cell? ⟨gb293, 0, none⟩ = some (.int .i64 a1_0) := (kCe BK293.out 0).trans rfl; have hcz18_1 : w13.cell? ⟨gb293, 1, none⟩ = some (.int .i64 a1_1) := (kCe BK293.out 1).trans rfl; have hfz18_0 := kFr BK293.out 0; have hfz18_1 := kFr BK293.out 1) | ((with_reducible refine gate_callee (f := 54) rfl ?_); refine goesL_ (some 26) rfl rfl Try.func54 (by kernel_rfl) rfl #[.agg #[.int .i64 ((rd_T23 l0 x6_1).f0), .int .i64 ((rd_T23 l0 x6_1).f1)], .agg #[.int .i64 t296, .int .i64 t297], .agg #[.int .i64 a1_0, .int .i64 a1_1]] rfl (by (try simp only [List.map_toArray, List.map_cons, List.map_nil]); first | done | rfl | (simp only [List.length_drop, List.length_take]; rfl)) ?_; (with_reducible refine (windhoverref09_On.calls k1 ((rd_T23 l0 x6_1).f0) ((rd_T23 l0 x6_1).f1) t296 t297 a1_0 a1_1 true _ A7.out).mono ?_); rintro e w19 ⟨rfl, hb⟩; refine ⟨_, rfl, ?_⟩; have n0_ := A0_.mk (kBe (g := gb293) (o := .cells #[.int .i64 a1_0, .int .i64 a1_1] 23 (0, 0)) (by (with_reducible repeat (first | refine kDn ?_ _ | refine kDr ?_ | refine kAl ?_ _)); refine blk_far ?_ NB293_298.out _; (with_reducible repeat (first | refine kDn ?_ _ | refine kDr ?_ | refine kAl ?_ _)); refine blk_far ?_ NB293_298.out _; (with_reducible repeat (first | refine kDn ?_ _ | refine kDr ?_ | refine kAl ?_ _)); exact BK293.out) hb); have n1_ := A0_.mk (kBe (g := gb295) (o := .cells #[.int .i64 ((rd_T23 l0 x6_1).f0), .int .i64 ((rd_T23 l0 x6_1).f1)] 23 (0, 0)) (by (with_reducible repeat (first | refine kDn ?_ _ | refine kDr ?_ | refine kAl ?_ _)); refine blk_far ?_ NB295_298.out _; (with_reducible repeat (first | refine kDn ?_ _ | refine kDr ?_ | refine kAl ?_ _)); refine blk_far ?_ NB295_298.out _; (with_reducible repeat (first | refine kDn ?_ _ | refine kDr ?_ | refine kAl ?_ _)); exact BK295.out) hb); have n2_ := A0_.mk (kBe (g := gb298) (o := .cells #[.int .i64 t296, .int .i64 t297] 23 (0, 0)) (by (with_reducible repeat (first | refine kDn ?_ _ | refine kDr ?_ | refine kAl ?_ _)); refine blk_put (cs := #[.int .i64 t296, .int .i64 0]) ?_ 1 _ rfl; (with_reducible repeat (first | refine kDn ?_ _ | refine kDr ?_ | refine kAl ?_ _)); refine blk_put (cs := #[.int .i64 0, .int .i64 0]) ?_ 0 _ rfl; (with_reducible repeat (first | refine kDn ?_ _ | refine kDr ?_ | refine kAl ?_ _)); exact BK298.out) hb); have n3_ := A0_.mk (bSp (by repeat (first | (with_reducible first | exact HB.out | apply bAl | apply pBn | apply bD1 | refine bSt ?_ GE293.out | refine bSt ?_ GE295.out | refine bSt ?_ GE298.out) | exact HB.out)) hb); clear BK293; clear BK295; clear BK298; clear HB; have BK293 := n0_; have BK295 := n1_; have BK298 := n2_; have HB := n3_; clear n0_ n1_ n2_ n3_; (try clear hb); (try clear hb2); (try clear hk); (try clear hi)))
      go_ret
      exact ⟨by first | rfl | (simp [errW_none, errW_some] <;> rfl) | (simp [*, errW_none, errW_some] <;> rfl), by repeat (first | (with_reducible first | exact HB.out | apply bAl | apply pBn | apply bD1 | refine bSt ?_ GE293.out | refine bSt ?_ GE295.out | refine bSt ?_ GE298.out) | exact HB.out)⟩
     ·replace c8 := Bool.eq_false_iff.mpr c8
      subst c8
      have H1 : (if ((decide (((rd_T23 l0 x6_1).f1) ≤ a1_1)) == (decide (t297 ≤ a1_1))) = true then (windhoverref09_Inside.l0 k1 l0 x5_1 (wrap64 (x6_1 + 1)) a1_0 a1_1) else (if ((rd_T23 l0 x6_1).f1) > t297 then (windhoverref09_Inside.j1 k1 l0 x5_1 x6_1 a1_0 a1_1 t296 t297 ((rd_T23 l0 x6_1).f0) ((rd_T23 l0 x6_1).f1)) else (windhoverref09_Inside.j1 k1 l0 x5_1 x6_1 a1_0 a1_1 ((rd_T23 l0 x6_1).f0) ((rd_T23 l0 x6_1).f1) t296 t297))) = some r := by rw [if_neg (show ¬ (false = true) by decide)] at H; exact H
      clear H
      have H := H1
      clear H1
      by_cases c20 : ((decide (((rd_T23 l0 x6_1).f1) ≤ a1_1)) == (decide (t297 ≤ a1_1))) = true
      ·rw [if_pos c20] at H
       have c20b0 : ((decide (((rd_T23 l0 x6_1).f1) ≤ a1_1)) == (decide (t297 ≤ a1_1))) = true := c20
       (try (have c20b1 : decide ((decide (((rd_T23 l0 x6_1).f1) ≤ a1_1)) = (decide (t297 ≤ a1_1))) = true := by simpa using c20))
       (try (have c20b2 : ((decide (((rd_T23 l0 x6_1).f1) ≤ a1_1)) == (decide (t297 ≤ a1_1))) = true := by simpa using c20))
       clear c20
       have H' := A0_.mk H
       clear H
       have p294 : 0 ≤ (x6_1 : Int) := of_decide_eq_true (by first | (with_reducible assumption) | assumption)
       have q294 : x6_1 < (l0.length : Int) := of_decide_eq_true (by first | (with_reducible assumption) | assumption)
       obtain ⟨ad294, e294, hx294_0, hx294_1⟩ := at_T23 HR0.out x6_1 p294 q294
       cases e294
       replace hx294_0 := (HB.out.cell (World.block_lt_of_cell? w _ hx294_0)).trans hx294_0
       replace hx294_1 := (HB.out.cell (World.block_lt_of_cell? w _ hx294_1)).trans hx294_1
       replace p294 := eq_true p294
       replace q294 := eq_true q294
       go_wp2_with (first | ((with_reducible refine gate_dst (N := 7) rfl ?_); refine box_event ?hg (N := 7) ?hd (cs := #[.int .i64 0, .int .i64 0]) (t := 23) ?hr ?_; (case hd => rfl); (case hg => rfl); (case hr => first | (go_simp; done) | (go_simp; rfl)); intro gb295 hg w21 hbox hb; have n0_ := A0_.mk (kBe (g := gb293) (o := .cells #[.int .i64 a1_0, .int .i64 a1_1] 23 (0, 0)) (by (with_reducible repeat (first | refine kDn ?_ _ | refine kDr ?_ | refine kAl ?_ _)); exact BK293.out) hb); have n1_ := A0_.mk (bSp (by repeat (first | (with_reducible first | exact HB.out | apply bAl | apply pBn | apply bD1 | refine bSt ?_ GE293.out) | exact HB.out)) hb); have n2_ := A0_.mk (hbox); have n3_ := A0_.mk ((by rw [hg]; exact (bSz (by repeat (first | (with_reducible first | exact HB.out | apply bAl | apply pBn | apply bD1 | refine bSt ?_ GE293.out) | exact HB.out))) : w.heap.size ≤ gb295)); have n4_ := A0_.mk ((by rw [hg]; exact (bSz (by repeat (first | (with_reducible first | exact HB.out | apply bAl | apply pBn | apply bD1 | refine bSt ?_ GE293.out) | exact HB.out))) : w.heap.size ≤ gb295)); have n5_ := A0_.mk ((by rw [hg]; exact Nat.ne_of_lt (blk_lt (g := gb293) (o := .cells #[.int .i64 a1_0, .int .i64 a1_1] 23 (0, 0)) (by (with_reducible repeat (first | refine kDn ?_ _ | refine kDr ?_ | refine kAl ?_ _)); exact BK293.out)) : gb293 ≠ gb295)); have n6_ := A0_.mk ((by rw [hg]; exact Nat.ne_of_gt (blk_lt (g := gb293) (o := .cells #[.int .i64 a1_0, .int .i64 a1_1] 23 (0, 0)) (by (with_reducible repeat (first | refine kDn ?_ _ | refine kDr ?_ | refine kAl ?_ _)); exact BK293.out)) : gb295 ≠ gb293)); clear BK293; clear HB; have BK293 := n0_; have HB := n1_; have BK295 := n2_; have GW295 := n3_; have GE295 := n4_; have NB293_295 := n5_; have NB295_293 := n6_; clear n0_ n1_ n2_ n3_ n4_ n5_ n6_; clear hb hbox hg; have hnb22 := NB295_293.out; have hnc22 := NB293_295.out; have hcz23_0 : w21.cell? ⟨gb295, 0, none⟩ = some (.int .i64 0) := (kCe BK295.out 0).trans rfl; have hcz23_1 : w21.cell? ⟨gb295, 1, none⟩ = some (.int .i64 0) := (kCe BK295.out 1).trans rfl; have hfz23_0 := kFr BK295.out 0; have hfz23_1 := kFr BK295.out 1) | ((with_reducible refine gate_callee (f := 45) rfl ?_); refine goesL_ (some 22) rfl rfl Try.func45 (by kernel_rfl) rfl #[.slice (some ad294) l0.length c0, .int .i64 x6_1] rfl (by (try simp only [List.map_toArray, List.map_cons, List.map_nil]); first | done | rfl | (simp only [List.length_drop, List.length_take]; rfl)) ?_; (with_reducible refine (windhoverref09_next.calls _ _ l0 x6_1 t296 t297 _ ?side1 ?side2 A6.out).mono ?_); (case side1 => exact Kd.C_below HR0.out (by repeat (first | (with_reducible first | exact HB.out | apply bAl | apply pBn | apply bD1 | refine bSt ?_ GE293.out | refine bSt ?_ GE295.out) | exact HB.out))); (case side2 => exact HC0.out); rintro e w24 ⟨rfl, hb⟩; refine ⟨_, rfl, ?_⟩; have n0_ := A0_.mk (kBe (g := gb293) (o := .cells #[.int .i64 a1_0, .int .i64 a1_1] 23 (0, 0)) (by (with_reducible repeat (first | refine kDn ?_ _ | refine kDr ?_ | refine kAl ?_ _)); refine blk_far ?_ NB293_295.out _; (with_reducible repeat (first | refine kDn ?_ _ | refine kDr ?_ | refine kAl ?_ _)); refine blk_far ?_ NB293_295.out _; (with_reducible repeat (first | refine kDn ?_ _ | refine kDr ?_ | refine kAl ?_ _)); exact BK293.out) hb); have n1_ := A0_.mk (kBe (g := gb295) (o := .cells #[.int .i64 ((rd_T23 l0 x6_1).f0), .int .i64 ((rd_T23 l0 x6_1).f1)] 23 (0, 0)) (by (with_reducible repeat (first | refine kDn ?_ _ | refine kDr ?_ | refine kAl ?_ _)); refine blk_put (cs := #[.int .i64 ((rd_T23 l0 x6_1).f0), .int .i64 0]) ?_ 1 _ rfl; (with_reducible repeat (first | refine kDn ?_ _ | refine kDr ?_ | refine kAl ?_ _)); refine blk_put (cs := #[.int .i64 0, .int .i64 0]) ?_ 0 _ rfl; (with_reducible repeat (first | refine kDn ?_ _ | refine kDr ?_ | refine kAl ?_ _)); exact BK295.out) hb); have n2_ := A0_.mk (bSp (by repeat (first | (with_reducible first | exact HB.out | apply bAl | apply pBn | apply bD1 | refine bSt ?_ GE293.out | refine bSt ?_ GE295.out) | exact HB.out)) hb); clear BK293; clear BK295; clear HB; have BK293 := n0_; have BK295 := n1_; have HB := n2_; clear n0_ n1_ n2_; (try clear hb); (try clear hb2); (try clear hk); (try clear hi)) | ((with_reducible refine gate_dst (N := 8) rfl ?_); refine box_event ?hg (N := 8) ?hd (cs := #[.int .i64 0, .int .i64 0]) (t := 23) ?hr ?_; (case hd => rfl); (case hg => rfl); (case hr => first | (go_simp; done) | (go_simp; rfl)); intro gb298 hg w25 hbox hb; have n0_ := A0_.mk (kBe (g := gb293) (o := .cells #[.int .i64 a1_0, .int .i64 a1_1] 23 (0, 0)) (by (with_reducible repeat (first | refine kDn ?_ _ | refine kDr ?_ | refine kAl ?_ _)); exact BK293.out) hb); have n1_ := A0_.mk (kBe (g := gb295) (o := .cells #[.int .i64 ((rd_T23 l0 x6_1).f0), .int .i64 ((rd_T23 l0 x6_1).f1)] 23 (0, 0)) (by (with_reducible repeat (first | refine kDn ?_ _ | refine kDr ?_ | refine kAl ?_ _)); exact BK295.out) hb); have n2_ := A0_.mk (bSp (by repeat (first | (with_reducible first | exact HB.out | apply bAl | apply pBn | apply bD1 | refine bSt ?_ GE293.out | refine bSt ?_ GE295.out) | exact HB.out)) hb); have n3_ := A0_.mk (hbox); have n4_ := A0_.mk ((by rw [hg]; exact (bSz (by repeat (first | (with_reducible first | exact HB.out | apply bAl | apply pBn | apply bD1 | refine bSt ?_ GE293.out | refine bSt ?_ GE295.out) | exact HB.out))) : w.heap.size ≤ gb298)); have n5_ := A0_.mk ((by rw [hg]; exact (bSz (by repeat (first | (with_reducible first | exact HB.out | apply bAl | apply pBn | apply bD1 | refine bSt ?_ GE293.out | refine bSt ?_ GE295.out) | exact HB.out))) : w.heap.size ≤ gb298)); have n6_ := A0_.mk ((by rw [hg]; exact Nat.ne_of_lt (blk_lt (g := gb293) (o := .cells #[.int .i64 a1_0, .int .i64 a1_1] 23 (0, 0)) (by (with_reducible repeat (first | refine kDn ?_ _ | refine kDr ?_ | refine kAl ?_ _)); exact BK293.out)) : gb293 ≠ gb298)); have n7_ := A0_.mk ((by rw [hg]; exact Nat.ne_of_gt (blk_lt (g := gb293) (o := .cells #[.int .i64 a1_0, .int .i64 a1_1] 23 (0, 0)) (by (with_reducible repeat (first | refine kDn ?_ _ | refine kDr ?_ | refine kAl ?_ _)); exact BK293.out)) : gb298 ≠ gb293)); have n8_ := A0_.mk ((by rw [hg]; exact Nat.ne_of_lt (blk_lt (g := gb295) (o := .cells #[.int .i64 ((rd_T23 l0 x6_1).f0), .int .i64 ((rd_T23 l0 x6_1).f1)] 23 (0, 0)) (by (with_reducible repeat (first | refine kDn ?_ _ | refine kDr ?_ | refine kAl ?_ _)); exact BK295.out)) : gb295 ≠ gb298)); have n9_ := A0_.mk ((by rw [hg]; exact Nat.ne_of_gt (blk_lt (g := gb295) (o := .cells #[.int .i64 ((rd_T23 l0 x6_1).f0), .int .i64 ((rd_T23 l0 x6_1).f1)] 23 (0, 0)) (by (with_reducible repeat (first | refine kDn ?_ _ | refine kDr ?_ | refine kAl ?_ _)); exact BK295.out)) : gb298 ≠ gb295)); clear BK293; clear BK295; clear HB; have BK293 := n0_; have BK295 := n1_; have HB := n2_; have BK298 := n3_; have GW298 := n4_; have GE298 := n5_; have NB293_298 := n6_; have NB298_293 := n7_; have NB295_298 := n8_; have NB298_295 := n9_; clear n0_ n1_ n2_ n3_ n4_ n5_ n6_ n7_ n8_ n9_; clear hb hbox hg; have hnb26 := NB298_293.out; have hnc26 := NB293_298.out; have hnb27 := NB298_295.out; have hnc27 := NB295_298.out; have hcz28_0 : w25.cell? ⟨gb298, 0, none⟩ = some (.int .i64 0) := (kCe BK298.out 0).trans rfl; have hcz28_1 : w25.cell? ⟨gb298, 1, none⟩ = some (.int .i64 0) := (kCe BK298.out 1).trans rfl; have hfz28_0 := kFr BK298.out 0; have hfz28_1 := kFr BK298.out 1; have hcz29_0 : w25.cell? ⟨gb295, 0, none⟩ = some (.int .i64 ((rd_T23 l0 x6_1).f0)) := (kCe BK295.out 0).trans rfl; have hcz29_1 : w25.cell? ⟨gb295, 1, none⟩ = some (.int .i64 ((rd_T23 l0 x6_1).f1)) := (kCe BK295.out 1).trans rfl; have hfz29_0 := kFr BK295.out 0; have hfz29_1 := kFr BK295.out 1; have hcz30_0 : w25.cell? ⟨gb293, 0, none⟩ = some (.int .i64 a1_0) := (kCe BK293.out 0).trans rfl; have hcz30_1 : w25.cell? ⟨gb293, 1, none⟩ = some (.int .i64 a1_1) := (kCe BK293.out 1).trans rfl; have hfz30_0 := kFr BK293.out 0; have hfz30_1 := kFr BK293.out 1) | ((with_reducible refine gate_callee (f := 54) rfl ?_); refine goesL_ (some 26) rfl rfl Try.func54 (by kernel_rfl) rfl #[.agg #[.int .i64 ((rd_T23 l0 x6_1).f0), .int .i64 ((rd_T23 l0 x6_1).f1)], .agg #[.int .i64 t296, .int .i64 t297], .agg #[.int .i64 a1_0, .int .i64 a1_1]] rfl (by (try simp only [List.map_toArray, List.map_cons, List.map_nil]); first | done | rfl | (simp only [List.length_drop, List.length_take]; rfl)) ?_; (with_reducible refine (windhoverref09_On.calls k1 ((rd_T23 l0 x6_1).f0) ((rd_T23 l0 x6_1).f1) t296 t297 a1_0 a1_1 false _ A7.out).mono ?_); rintro e w31 ⟨rfl, hb⟩; refine ⟨_, rfl, ?_⟩; have n0_ := A0_.mk (kBe (g := gb293) (o := .cells #[.int .i64 a1_0, .int .i64 a1_1] 23 (0, 0)) (by (with_reducible repeat (first | refine kDn ?_ _ | refine kDr ?_ | refine kAl ?_ _)); refine blk_far ?_ NB293_298.out _; (with_reducible repeat (first | refine kDn ?_ _ | refine kDr ?_ | refine kAl ?_ _)); refine blk_far ?_ NB293_298.out _; (with_reducible repeat (first | refine kDn ?_ _ | refine kDr ?_ | refine kAl ?_ _)); exact BK293.out) hb); have n1_ := A0_.mk (kBe (g := gb295) (o := .cells #[.int .i64 ((rd_T23 l0 x6_1).f0), .int .i64 ((rd_T23 l0 x6_1).f1)] 23 (0, 0)) (by (with_reducible repeat (first | refine kDn ?_ _ | refine kDr ?_ | refine kAl ?_ _)); refine blk_far ?_ NB295_298.out _; (with_reducible repeat (first | refine kDn ?_ _ | refine kDr ?_ | refine kAl ?_ _)); refine blk_far ?_ NB295_298.out _; (with_reducible repeat (first | refine kDn ?_ _ | refine kDr ?_ | refine kAl ?_ _)); exact BK295.out) hb); have n2_ := A0_.mk (kBe (g := gb298) (o := .cells #[.int .i64 t296, .int .i64 t297] 23 (0, 0)) (by (with_reducible repeat (first | refine kDn ?_ _ | refine kDr ?_ | refine kAl ?_ _)); refine blk_put (cs := #[.int .i64 t296, .int .i64 0]) ?_ 1 _ rfl; (with_reducible repeat (first | refine kDn ?_ _ | refine kDr ?_ | refine kAl ?_ _)); refine blk_put (cs := #[.int .i64 0, .int .i64 0]) ?_ 0 _ rfl; (with_reducible repeat (first | refine kDn ?_ _ | refine kDr ?_ | refine kAl ?_ _)); exact BK298.out) hb); have n3_ := A0_.mk (bSp (by repeat (first | (with_reducible first | exact HB.out | apply bAl | apply pBn | apply bD1 | refine bSt ?_ GE293.out | refine bSt ?_ GE295.out | refine bSt ?_ GE298.out) | exact HB.out)) hb); clear BK293; clear BK295; clear BK298; clear HB; have BK293 := n0_; have BK295 := n1_; have BK298 := n2_; have HB := n3_; clear n0_ n1_ n2_ n3_; (try clear hb); (try clear hb2); (try clear hk); (try clear hi); have hcz32_0 : w31.cell? ⟨gb295, 0, none⟩ = some (.int .i64 ((rd_T23 l0 x6_1).f0)) := (kCe BK295.out 0).trans rfl; have hcz32_1 : w31.cell? ⟨gb295, 1, none⟩ = some (.int .i64 ((rd_T23 l0 x6_1).f1)) := (kCe BK295.out 1).trans rfl; have hfz32_0 := kFr BK295.out 0; have hfz32_1 := kFr BK295.out 1; have hcz33_0 : w31.cell? ⟨gb293, 0, none⟩ = some (.int .i64 a1_0) := (kCe BK293.out 0).trans rfl; have hcz33_1 : w31.cell? ⟨gb293, 1, none⟩ = some (.int .i64 a1_1) := (kCe BK293.out 1).trans rfl; have hfz33_0 := kFr BK293.out 0; have hfz33_1 := kFr BK293.out 1; have hcz34_0 : w31.cell? ⟨gb298, 0, none⟩ = some (.int .i64 t296) := (kCe BK298.out 0).trans rfl; have hcz34_1 : w31.cell? ⟨gb298, 1, none⟩ = some (.int .i64 t297) := (kCe BK298.out 1).trans rfl; have hfz34_0 := kFr BK298.out 0; have hfz34_1 := kFr BK298.out 1))
       go_roundg k1
       case measure => have := HK1.out; omega
       case rel => exact ⟨(x5_1), (wrap64 (x6_1 + 1)), (by first | rfl | (simp; done) | (simp [*]; done)), (by first | rfl | (simp; done) | (simp [*]; done)), H', ⟨by have := HK1.out; omega⟩, ⟨by (with_reducible repeat (first | refine kDn ?_ _ | refine kDr ?_ | refine kAl ?_ _)); exact BK293.out⟩, ⟨by repeat (first | (with_reducible first | exact HB.out | apply bAl | apply pBn | apply bD1 | refine bSt ?_ GE293.out | refine bSt ?_ GE295.out | refine bSt ?_ GE298.out) | exact HB.out)⟩⟩
      ·rw [if_neg c20] at H
       have c20b0 : ((decide (((rd_T23 l0 x6_1).f1) ≤ a1_1)) == (decide (t297 ≤ a1_1))) = false := by simpa using c20
       (try (have c20b1 : decide ((decide (((rd_T23 l0 x6_1).f1) ≤ a1_1)) = (decide (t297 ≤ a1_1))) = false := by simpa using c20))
       (try (have c20b2 : ((decide (((rd_T23 l0 x6_1).f1) ≤ a1_1)) == (decide (t297 ≤ a1_1))) = false := by simpa using c20))
       (try (have c20b3 : ¬ ((decide (((rd_T23 l0 x6_1).f1) ≤ a1_1)) = (decide (t297 ≤ a1_1))) := by simpa using c20))
       clear c20
       have HC35 := A0_.mk H
       clear H
       have p294 : 0 ≤ (x6_1 : Int) := of_decide_eq_true (by first | (with_reducible assumption) | assumption)
       have q294 : x6_1 < (l0.length : Int) := of_decide_eq_true (by first | (with_reducible assumption) | assumption)
       obtain ⟨ad294, e294, hx294_0, hx294_1⟩ := at_T23 HR0.out x6_1 p294 q294
       cases e294
       replace hx294_0 := (HB.out.cell (World.block_lt_of_cell? w _ hx294_0)).trans hx294_0
       replace hx294_1 := (HB.out.cell (World.block_lt_of_cell? w _ hx294_1)).trans hx294_1
       replace p294 := eq_true p294
       replace q294 := eq_true q294
       go_upto_if 42 with (first | ((with_reducible refine gate_dst (N := 7) rfl ?_); refine box_event ?hg (N := 7) ?hd (cs := #[.int .i64 0, .int .i64 0]) (t := 23) ?hr ?_; (case hd => rfl); (case hg => rfl); (case hr => first | (go_simp; done) | (go_simp; rfl)); intro gb295 hg w36 hbox hb; have n0_ := A0_.mk (kBe (g := gb293) (o := .cells #[.int .i64 a1_0, .int .i64 a1_1] 23 (0, 0)) (by (with_reducible repeat (first | refine kDn ?_ _ | refine kDr ?_ | refine kAl ?_ _)); exact BK293.out) hb); have n1_ := A0_.mk (bSp (by repeat (first | (with_reducible first | exact HB.out | apply bAl | apply pBn | apply bD1 | refine bSt ?_ GE293.out) | exact HB.out)) hb); have n2_ := A0_.mk (hbox); have n3_ := A0_.mk ((by rw [hg]; exact (bSz (by repeat (first | (with_reducible first | exact HB.out | apply bAl | apply pBn | apply bD1 | refine bSt ?_ GE293.out) | exact HB.out))) : w.heap.size ≤ gb295)); have n4_ := A0_.mk ((by rw [hg]; exact (bSz (by repeat (first | (with_reducible first | exact HB.out | apply bAl | apply pBn | apply bD1 | refine bSt ?_ GE293.out) | exact HB.out))) : w.heap.size ≤ gb295)); have n5_ := A0_.mk ((by rw [hg]; exact Nat.ne_of_lt (blk_lt (g := gb293) (o := .cells #[.int .i64 a1_0, .int .i64 a1_1] 23 (0, 0)) (by (with_reducible repeat (first | refine kDn ?_ _ | refine kDr ?_ | refine kAl ?_ _)); exact BK293.out)) : gb293 ≠ gb295)); have n6_ := A0_.mk ((by rw [hg]; exact Nat.ne_of_gt (blk_lt (g := gb293) (o := .cells #[.int .i64 a1_0, .int .i64 a1_1] 23 (0, 0)) (by (with_reducible repeat (first | refine kDn ?_ _ | refine kDr ?_ | refine kAl ?_ _)); exact BK293.out)) : gb295 ≠ gb293)); clear BK293; clear HB; have BK293 := n0_; have HB := n1_; have BK295 := n2_; have GW295 := n3_; have GE295 := n4_; have NB293_295 := n5_; have NB295_293 := n6_; clear n0_ n1_ n2_ n3_ n4_ n5_ n6_; clear hb hbox hg; have hnb37 := NB295_293.out; have hnc37 := NB293_295.out; have hcz38_0 : w36.cell? ⟨gb295, 0, none⟩ = some (.int .i64 0) := (kCe BK295.out 0).trans rfl; have hcz38_1 : w36.cell? ⟨gb295, 1, none⟩ = some (.int .i64 0) := (kCe BK295.out 1).trans rfl; have hfz38_0 := kFr BK295.out 0; have hfz38_1 := kFr BK295.out 1) | ((with_reducible refine gate_callee (f := 45) rfl ?_); refine goesL_ (some 22) rfl rfl Try.func45 (by kernel_rfl) rfl #[.slice (some ad294) l0.length c0, .int .i64 x6_1] rfl (by (try simp only [List.map_toArray, List.map_cons, List.map_nil]); first | done | rfl | (simp only [List.length_drop, List.length_take]; rfl)) ?_; (with_reducible refine (windhoverref09_next.calls _ _ l0 x6_1 t296 t297 _ ?side1 ?side2 A6.out).mono ?_); (case side1 => exact Kd.C_below HR0.out (by repeat (first | (with_reducible first | exact HB.out | apply bAl | apply pBn | apply bD1 | refine bSt ?_ GE293.out | refine bSt ?_ GE295.out) | exact HB.out))); (case side2 => exact HC0.out); rintro e w39 ⟨rfl, hb⟩; refine ⟨_, rfl, ?_⟩; have n0_ := A0_.mk (kBe (g := gb293) (o := .cells #[.int .i64 a1_0, .int .i64 a1_1] 23 (0, 0)) (by (with_reducible repeat (first | refine kDn ?_ _ | refine kDr ?_ | refine kAl ?_ _)); refine blk_far ?_ NB293_295.out _; (with_reducible repeat (first | refine kDn ?_ _ | refine kDr ?_ | refine kAl ?_ _)); refine blk_far ?_ NB293_295.out _; (with_reducible repeat (first | refine kDn ?_ _ | refine kDr ?_ | refine kAl ?_ _)); exact BK293.out) hb); have n1_ := A0_.mk (kBe (g := gb295) (o := .cells #[.int .i64 ((rd_T23 l0 x6_1).f0), .int .i64 ((rd_T23 l0 x6_1).f1)] 23 (0, 0)) (by (with_reducible repeat (first | refine kDn ?_ _ | refine kDr ?_ | refine kAl ?_ _)); refine blk_put (cs := #[.int .i64 ((rd_T23 l0 x6_1).f0), .int .i64 0]) ?_ 1 _ rfl; (with_reducible repeat (first | refine kDn ?_ _ | refine kDr ?_ | refine kAl ?_ _)); refine blk_put (cs := #[.int .i64 0, .int .i64 0]) ?_ 0 _ rfl; (with_reducible repeat (first | refine kDn ?_ _ | refine kDr ?_ | refine kAl ?_ _)); exact BK295.out) hb); have n2_ := A0_.mk (bSp (by repeat (first | (with_reducible first | exact HB.out | apply bAl | apply pBn | apply bD1 | refine bSt ?_ GE293.out | refine bSt ?_ GE295.out) | exact HB.out)) hb); clear BK293; clear BK295; clear HB; have BK293 := n0_; have BK295 := n1_; have HB := n2_; clear n0_ n1_ n2_; (try clear hb); (try clear hb2); (try clear hk); (try clear hi)) | ((with_reducible refine gate_dst (N := 8) rfl ?_); refine box_event ?hg (N := 8) ?hd (cs := #[.int .i64 0, .int .i64 0]) (t := 23) ?hr ?_; (case hd => rfl); (case hg => rfl); (case hr => first | (go_simp; done) | (go_simp; rfl)); intro gb298 hg w40 hbox hb; have n0_ := A0_.mk (kBe (g := gb293) (o := .cells #[.int .i64 a1_0, .int .i64 a1_1] 23 (0, 0)) (by (with_reducible repeat (first | refine kDn ?_ _ | refine kDr ?_ | refine kAl ?_ _)); exact BK293.out) hb); have n1_ := A0_.mk (kBe (g := gb295) (o := .cells #[.int .i64 ((rd_T23 l0 x6_1).f0), .int .i64 ((rd_T23 l0 x6_1).f1)] 23 (0, 0)) (by (with_reducible repeat (first | refine kDn ?_ _ | refine kDr ?_ | refine kAl ?_ _)); exact BK295.out) hb); have n2_ := A0_.mk (bSp (by repeat (first | (with_reducible first | exact HB.out | apply bAl | apply pBn | apply bD1 | refine bSt ?_ GE293.out | refine bSt ?_ GE295.out) | exact HB.out)) hb); have n3_ := A0_.mk (hbox); have n4_ := A0_.mk ((by rw [hg]; exact (bSz (by repeat (first | (with_reducible first | exact HB.out | apply bAl | apply pBn | apply bD1 | refine bSt ?_ GE293.out | refine bSt ?_ GE295.out) | exact HB.out))) : w.heap.size ≤ gb298)); have n5_ := A0_.mk ((by rw [hg]; exact (bSz (by repeat (first | (with_reducible first | exact HB.out | apply bAl | apply pBn | apply bD1 | refine bSt ?_ GE293.out | refine bSt ?_ GE295.out) | exact HB.out))) : w.heap.size ≤ gb298)); have n6_ := A0_.mk ((by rw [hg]; exact Nat.ne_of_lt (blk_lt (g := gb293) (o := .cells #[.int .i64 a1_0, .int .i64 a1_1] 23 (0, 0)) (by (with_reducible repeat (first | refine kDn ?_ _ | refine kDr ?_ | refine kAl ?_ _)); exact BK293.out)) : gb293 ≠ gb298)); have n7_ := A0_.mk ((by rw [hg]; exact Nat.ne_of_gt (blk_lt (g := gb293) (o := .cells #[.int .i64 a1_0, .int .i64 a1_1] 23 (0, 0)) (by (with_reducible repeat (first | refine kDn ?_ _ | refine kDr ?_ | refine kAl ?_ _)); exact BK293.out)) : gb298 ≠ gb293)); have n8_ := A0_.mk ((by rw [hg]; exact Nat.ne_of_lt (blk_lt (g := gb295) (o := .cells #[.int .i64 ((rd_T23 l0 x6_1).f0), .int .i64 ((rd_T23 l0 x6_1).f1)] 23 (0, 0)) (by (with_reducible repeat (first | refine kDn ?_ _ | refine kDr ?_ | refine kAl ?_ _)); exact BK295.out)) : gb295 ≠ gb298)); have n9_ := A0_.mk ((by rw [hg]; exact Nat.ne_of_gt (blk_lt (g := gb295) (o := .cells #[.int .i64 ((rd_T23 l0 x6_1).f0), .int .i64 ((rd_T23 l0 x6_1).f1)] 23 (0, 0)) (by (with_reducible repeat (first | refine kDn ?_ _ | refine kDr ?_ | refine kAl ?_ _)); exact BK295.out)) : gb298 ≠ gb295)); clear BK293; clear BK295; clear HB; have BK293 := n0_; have BK295 := n1_; have HB := n2_; have BK298 := n3_; have GW298 := n4_; have GE298 := n5_; have NB293_298 := n6_; have NB298_293 := n7_; have NB295_298 := n8_; have NB298_295 := n9_; clear n0_ n1_ n2_ n3_ n4_ n5_ n6_ n7_ n8_ n9_; clear hb hbox hg; have hnb41 := NB298_293.out; have hnc41 := NB293_298.out; have hnb42 := NB298_295.out; have hnc42 := NB295_298.out; have hcz43_0 : w40.cell? ⟨gb298, 0, none⟩ = some (.int .i64 0) := (kCe BK298.out 0).trans rfl; have hcz43_1 : w40.cell? ⟨gb298, 1, none⟩ = some (.int .i64 0) := (kCe BK298.out 1).trans rfl; have hfz43_0 := kFr BK298.out 0; have hfz43_1 := kFr BK298.out 1; have hcz44_0 : w40.cell? ⟨gb295, 0, none⟩ = some (.int .i64 ((rd_T23 l0 x6_1).f0)) := (kCe BK295.out 0).trans rfl; have hcz44_1 : w40.cell? ⟨gb295, 1, none⟩ = some (.int .i64 ((rd_T23 l0 x6_1).f1)) := (kCe BK295.out 1).trans rfl; have hfz44_0 := kFr BK295.out 0; have hfz44_1 := kFr BK295.out 1; have hcz45_0 : w40.cell? ⟨gb293, 0, none⟩ = some (.int .i64 a1_0) := (kCe BK293.out 0).trans rfl; have hcz45_1 : w40.cell? ⟨gb293, 1, none⟩ = some (.int .i64 a1_1) := (kCe BK293.out 1).trans rfl; have hfz45_0 := kFr BK293.out 0; have hfz45_1 := kFr BK293.out 1) | ((with_reducible refine gate_callee (f := 54) rfl ?_); refine goesL_ (some 26) rfl rfl Try.func54 (by kernel_rfl) rfl #[.agg #[.int .i64 ((rd_T23 l0 x6_1).f0), .int .i64 ((rd_T23 l0 x6_1).f1)], .agg #[.int .i64 t296, .int .i64 t297], .agg #[.int .i64 a1_0, .int .i64 a1_1]] rfl (by (try simp only [List.map_toArray, List.map_cons, List.map_nil]); first | done | rfl | (simp only [List.length_drop, List.length_take]; rfl)) ?_; (with_reducible refine (windhoverref09_On.calls k1 ((rd_T23 l0 x6_1).f0) ((rd_T23 l0 x6_1).f1) t296 t297 a1_0 a1_1 false _ A7.out).mono ?_); rintro e w46 ⟨rfl, hb⟩; refine ⟨_, rfl, ?_⟩; have n0_ := A0_.mk (kBe (g := gb293) (o := .cells #[.int .i64 a1_0, .int .i64 a1_1] 23 (0, 0)) (by (with_reducible repeat (first | refine kDn ?_ _ | refine kDr ?_ | refine kAl ?_ _)); refine blk_far ?_ NB293_298.out _; (with_reducible repeat (first | refine kDn ?_ _ | refine kDr ?_ | refine kAl ?_ _)); refine blk_far ?_ NB293_298.out _; (with_reducible repeat (first | refine kDn ?_ _ | refine kDr ?_ | refine kAl ?_ _)); exact BK293.out) hb); have n1_ := A0_.mk (kBe (g := gb295) (o := .cells #[.int .i64 ((rd_T23 l0 x6_1).f0), .int .i64 ((rd_T23 l0 x6_1).f1)] 23 (0, 0)) (by (with_reducible repeat (first | refine kDn ?_ _ | refine kDr ?_ | refine kAl ?_ _)); refine blk_far ?_ NB295_298.out _; (with_reducible repeat (first | refine kDn ?_ _ | refine kDr ?_ | refine kAl ?_ _)); refine blk_far ?_ NB295_298.out _; (with_reducible repeat (first | refine kDn ?_ _ | refine kDr ?_ | refine kAl ?_ _)); exact BK295.out) hb); have n2_ := A0_.mk (kBe (g := gb298) (o := .cells #[.int .i64 t296, .int .i64 t297] 23 (0, 0)) (by (with_reducible repeat (first | refine kDn ?_ _ | refine kDr ?_ | refine kAl ?_ _)); refine blk_put (cs := #[.int .i64 t296, .int .i64 0]) ?_ 1 _ rfl; (with_reducible repeat (first | refine kDn ?_ _ | refine kDr ?_ | refine kAl ?_ _)); refine blk_put (cs := #[.int .i64 0, .int .i64 0]) ?_ 0 _ rfl; (with_reducible repeat (first | refine kDn ?_ _ | refine kDr ?_ | refine kAl ?_ _)); exact BK298.out) hb); have n3_ := A0_.mk (bSp (by repeat (first | (with_reducible first | exact HB.out | apply bAl | apply pBn | apply bD1 | refine bSt ?_ GE293.out | refine bSt ?_ GE295.out | refine bSt ?_ GE298.out) | exact HB.out)) hb); clear BK293; clear BK295; clear BK298; clear HB; have BK293 := n0_; have BK295 := n1_; have BK298 := n2_; have HB := n3_; clear n0_ n1_ n2_ n3_; (try clear hb); (try clear hb2); (try clear hk); (try clear hi); have hcz47_0 : w46.cell? ⟨gb295, 0, none⟩ = some (.int .i64 ((rd_T23 l0 x6_1).f0)) := (kCe BK295.out 0).trans rfl; have hcz47_1 : w46.cell? ⟨gb295, 1, none⟩ = some (.int .i64 ((rd_T23 l0 x6_1).f1)) := (kCe BK295.out 1).trans rfl; have hfz47_0 := kFr BK295.out 0; have hfz47_1 := kFr BK295.out 1; have hcz48_0 : w46.cell? ⟨gb293, 0, none⟩ = some (.int .i64 a1_0) := (kCe BK293.out 0).trans rfl; have hcz48_1 : w46.cell? ⟨gb293, 1, none⟩ = some (.int .i64 a1_1) := (kCe BK293.out 1).trans rfl; have hfz48_0 := kFr BK293.out 0; have hfz48_1 := kFr BK293.out 1; have hcz49_0 : w46.cell? ⟨gb298, 0, none⟩ = some (.int .i64 t296) := (kCe BK298.out 0).trans rfl; have hcz49_1 : w46.cell? ⟨gb298, 1, none⟩ = some (.int .i64 t297) := (kCe BK298.out 1).trans rfl; have hfz49_0 := kFr BK298.out 0; have hfz49_1 := kFr BK298.out 1))
       (try simp only [Act.put, lsT, lcZ, lcS])
       go_cut [] (fun wc => ∃ (kq : Nat) (x296000_34 : Int) (x296001_34 : Int) (x299000_34 : Int) (x299001_34 : Int), A0_ (windhoverref09_Inside.j1 kq l0 x5_1 x6_1 a1_0 a1_1 x296000_34 x296001_34 x299000_34 x299001_34 = some r) ∧ A0_ (kq ≤ k1) ∧ A0_ (wc.heap[gb293]? = some (.cells #[.int .i64 a1_0, .int .i64 a1_1] 23 (0, 0))) ∧ A0_ (wc.heap[gb295]? = some (.cells #[.int .i64 x296000_34, .int .i64 x296001_34] 23 (0, 0))) ∧ A0_ (wc.heap[gb298]? = some (.cells #[.int .i64 x299000_34, .int .i64 x299001_34] 23 (0, 0))) ∧ A0_ (Below w.heap.size w wc))
       case first =>
        have H := HC35.out
        clear HC35
        by_cases c50 : ((rd_T23 l0 x6_1).f1) > t297
        ·rw [if_pos c50] at H
         have c50b0 : decide (t297 < ((rd_T23 l0 x6_1).f1)) = true := decide_eq_true c50
         clear c50
         (first | rw [c50b0] | (simp only [i64_w, i32_w]; rw [c50b0]) | skip)
         have H' := A0_.mk H
         clear H
         have hnb51 := NB295_293.out
         have hnc51 := NB293_295.out
         have hnb52 := NB295_298.out
         have hnc52 := NB298_295.out
         have hcz53_0 : w46.cell? ⟨gb295, 0, none⟩ = some (.int .i64 ((rd_T23 l0 x6_1).f0)) := (kCe BK295.out 0).trans rfl
         have hcz53_1 : w46.cell? ⟨gb295, 1, none⟩ = some (.int .i64 ((rd_T23 l0 x6_1).f1)) := (kCe BK295.out 1).trans rfl
         have hfz53_0 := kFr BK295.out 0
         have hfz53_1 := kFr BK295.out 1
         go_wp2_with (first | ((with_reducible refine gate_dst (N := 9) rfl ?_); refine box_event ?hg (N := 9) ?hd (cs := #[.int .i64 0, .int .i64 0]) (t := 23) ?hr ?_; (case hd => rfl); (case hg => rfl); (case hr => first | (go_simp; done) | (go_simp; rfl)); intro gb300 hg w54 hbox hb; have n0_ := A0_.mk (kBe (g := gb293) (o := .cells #[.int .i64 a1_0, .int .i64 a1_1] 23 (0, 0)) (by (with_reducible repeat (first | refine kDn ?_ _ | refine kDr ?_ | refine kAl ?_ _)); exact BK293.out) hb); have n1_ := A0_.mk (kBe (g := gb295) (o := .cells #[.int .i64 ((rd_T23 l0 x6_1).f0), .int .i64 ((rd_T23 l0 x6_1).f1)] 23 (0, 0)) (by (with_reducible repeat (first | refine kDn ?_ _ | refine kDr ?_ | refine kAl ?_ _)); exact BK295.out) hb); have n2_ := A0_.mk (kBe (g := gb298) (o := .cells #[.int .i64 t296, .int .i64 t297] 23 (0, 0)) (by (with_reducible repeat (first | refine kDn ?_ _ | refine kDr ?_ | refine kAl ?_ _)); exact BK298.out) hb); have n3_ := A0_.mk (bSp (by repeat (first | (with_reducible first | exact HB.out | apply bAl | apply pBn | apply bD1 | refine bSt ?_ GE293.out | refine bSt ?_ GE295.out | refine bSt ?_ GE298.out) | exact HB.out)) hb); have n4_ := A0_.mk (hbox); have n5_ := A0_.mk ((by rw [hg]; exact (bSz (by repeat (first | (with_reducible first | exact HB.out | apply bAl | apply pBn | apply bD1 | refine bSt ?_ GE293.out | refine bSt ?_ GE295.out | refine bSt ?_ GE298.out) | exact HB.out))) : w.heap.size ≤ gb300)); have n6_ := A0_.mk ((by rw [hg]; exact (bSz (by repeat (first | (with_reducible first | exact HB.out | apply bAl | apply pBn | apply bD1 | refine bSt ?_ GE293.out | refine bSt ?_ GE295.out | refine bSt ?_ GE298.out) | exact HB.out))) : w.heap.size ≤ gb300)); have n7_ := A0_.mk ((by rw [hg]; exact Nat.ne_of_lt (blk_lt (g := gb293) (o := .cells #[.int .i64 a1_0, .int .i64 a1_1] 23 (0, 0)) (by (with_reducible repeat (first | refine kDn ?_ _ | refine kDr ?_ | refine kAl ?_ _)); exact BK293.out)) : gb293 ≠ gb300)); have n8_ := A0_.mk ((by rw [hg]; exact Nat.ne_of_gt (blk_lt (g := gb293) (o := .cells #[.int .i64 a1_0, .int .i64 a1_1] 23 (0, 0)) (by (with_reducible repeat (first | refine kDn ?_ _ | refine kDr ?_ | refine kAl ?_ _)); exact BK293.out)) : gb300 ≠ gb293)); have n9_ := A0_.mk ((by rw [hg]; exact Nat.ne_of_lt (blk_lt (g := gb295) (o := .cells #[.int .i64 ((rd_T23 l0 x6_1).f0), .int .i64 ((rd_T23 l0 x6_1).f1)] 23 (0, 0)) (by (with_reducible repeat (first | refine kDn ?_ _ | refine kDr ?_ | refine kAl ?_ _)); exact BK295.out)) : gb295 ≠ gb300)); have n10_ := A0_.mk ((by rw [hg]; exact Nat.ne_of_gt (blk_lt (g := gb295) (o := .cells #[.int .i64 ((rd_T23 l0 x6_1).f0), .int .i64 ((rd_T23 l0 x6_1).f1)] 23 (0, 0)) (by (with_reducible repeat (first | refine kDn ?_ _ | refine kDr ?_ | refine kAl ?_ _)); exact BK295.out)) : gb300 ≠ gb295)); have n11_ := A0_.mk ((by rw [hg]; exact Nat.ne_of_lt (blk_lt (g := gb298) (o := .cells #[.int .i64 t296, .int .i64 t297] 23 (0, 0)) (by (with_reducible repeat (first | refine kDn ?_ _ | refine kDr ?_ | refine kAl ?_ _)); exact BK298.out)) : gb298 ≠ gb300)); have n12_ := A0_.mk ((by rw [hg]; exact Nat.ne_of_gt (blk_lt (g := gb298) (o := .cells #[.int .i64 t296, .int .i64 t297] 23 (0, 0)) (by (with_reducible repeat (first | refine kDn ?_ _ | refine kDr ?_ | refine kAl ?_ _)); exact BK298.out)) : gb300 ≠ gb298)); clear BK293; clear BK295; clear BK298; clear HB; have BK293 := n0_; have BK295 := n1_; have BK298 := n2_; have HB := n3_; have BK300 := n4_; have GW300 := n5_; have GE300 := n6_; have NB293_300 := n7_; have NB300_293 := n8_; have NB295_300 := n9_; have NB300_295 := n10_; have NB298_300 := n11_; have NB300_298 := n12_; clear n0_ n1_ n2_ n3_ n4_ n5_ n6_ n7_ n8_ n9_ n10_ n11_ n12_; clear hb hbox hg; have hnb55 := NB300_293.out; have hnc55 := NB293_300.out; have hnb56 := NB300_295.out; have hnc56 := NB295_300.out; have hnb57 := NB300_298.out; have hnc57 := NB298_300.out; have hcz58_0 : w54.cell? ⟨gb300, 0, none⟩ = some (.int .i64 0) := (kCe BK300.out 0).trans rfl; have hcz58_1 : w54.cell? ⟨gb300, 1, none⟩ = some (.int .i64 0) := (kCe BK300.out 1).trans rfl; have hfz58_0 := kFr BK300.out 0; have hfz58_1 := kFr BK300.out 1; have hnb59 := NB298_293.out; have hnc59 := NB293_298.out; have hcz60_0 : w54.cell? ⟨gb298, 0, none⟩ = some (.int .i64 t296) := (kCe BK298.out 0).trans rfl; have hcz60_1 : w54.cell? ⟨gb298, 1, none⟩ = some (.int .i64 t297) := (kCe BK298.out 1).trans rfl; have hfz60_0 := kFr BK298.out 0; have hfz60_1 := kFr BK298.out 1; have hcz61_0 : w54.cell? ⟨gb295, 0, none⟩ = some (.int .i64 ((rd_T23 l0 x6_1).f0)) := (kCe BK295.out 0).trans rfl; have hcz61_1 : w54.cell? ⟨gb295, 1, none⟩ = some (.int .i64 ((rd_T23 l0 x6_1).f1)) := (kCe BK295.out 1).trans rfl; have hfz61_0 := kFr BK295.out 0; have hfz61_1 := kFr BK295.out 1))
         go_meet
         case rel => exact ⟨_, (t296), (t297), ((rd_T23 l0 x6_1).f0), ((rd_T23 l0 x6_1).f1), H', ⟨by have := HK1.out; first | omega | exact Nat.le_refl _⟩, ⟨by (with_reducible repeat (first | refine kDn ?_ _ | refine kDr ?_ | refine kAl ?_ _)); refine blk_far ?_ NB293_298.out _; (with_reducible repeat (first | refine kDn ?_ _ | refine kDr ?_ | refine kAl ?_ _)); refine blk_far ?_ NB293_298.out _; (with_reducible repeat (first | refine kDn ?_ _ | refine kDr ?_ | refine kAl ?_ _)); refine blk_far ?_ NB293_295.out _; (with_reducible repeat (first | refine kDn ?_ _ | refine kDr ?_ | refine kAl ?_ _)); refine blk_far ?_ NB293_295.out _; (with_reducible repeat (first | refine kDn ?_ _ | refine kDr ?_ | refine kAl ?_ _)); refine blk_far ?_ NB293_300.out _; (with_reducible repeat (first | refine kDn ?_ _ | refine kDr ?_ | refine kAl ?_ _)); refine blk_far ?_ NB293_300.out _; (with_reducible repeat (first | refine kDn ?_ _ | refine kDr ?_ | refine kAl ?_ _)); exact BK293.out⟩, ⟨by (with_reducible repeat (first | refine kDn ?_ _ | refine kDr ?_ | refine kAl ?_ _)); refine blk_far ?_ NB295_298.out _; (with_reducible repeat (first | refine kDn ?_ _ | refine kDr ?_ | refine kAl ?_ _)); refine blk_far ?_ NB295_298.out _; (with_reducible repeat (first | refine kDn ?_ _ | refine kDr ?_ | refine kAl ?_ _)); refine blk_put (cs := #[.int .i64 t296, .int .i64 ((rd_T23 l0 x6_1).f1)]) ?_ 1 _ rfl; (with_reducible repeat (first | refine kDn ?_ _ | refine kDr ?_ | refine kAl ?_ _)); refine blk_put (cs := #[.int .i64 ((rd_T23 l0 x6_1).f0), .int .i64 ((rd_T23 l0 x6_1).f1)]) ?_ 0 _ rfl; (with_reducible repeat (first | refine kDn ?_ _ | refine kDr ?_ | refine kAl ?_ _)); refine blk_far ?_ NB295_300.out _; (with_reducible repeat (first | refine kDn ?_ _ | refine kDr ?_ | refine kAl ?_ _)); refine blk_far ?_ NB295_300.out _; (with_reducible repeat (first | refine kDn ?_ _ | refine kDr ?_ | refine kAl ?_ _)); exact BK295.out⟩, ⟨by (with_reducible repeat (first | refine kDn ?_ _ | refine kDr ?_ | refine kAl ?_ _)); refine blk_put (cs := #[.int .i64 ((rd_T23 l0 x6_1).f0), .int .i64 t297]) ?_ 1 _ rfl; (with_reducible repeat (first | refine kDn ?_ _ | refine kDr ?_ | refine kAl ?_ _)); refine blk_put (cs := #[.int .i64 t296, .int .i64 t297]) ?_ 0 _ rfl; (with_reducible repeat (first | refine kDn ?_ _ | refine kDr ?_ | refine kAl ?_ _)); refine blk_far ?_ NB298_295.out _; (with_reducible repeat (first | refine kDn ?_ _ | refine kDr ?_ | refine kAl ?_ _)); refine blk_far ?_ NB298_295.out _; (with_reducible repeat (first | refine kDn ?_ _ | refine kDr ?_ | refine kAl ?_ _)); refine blk_far ?_ NB298_300.out _; (with_reducible repeat (first | refine kDn ?_ _ | refine kDr ?_ | refine kAl ?_ _)); refine blk_far ?_ NB298_300.out _; (with_reducible repeat (first | refine kDn ?_ _ | refine kDr ?_ | refine kAl ?_ _)); exact BK298.out⟩, ⟨by repeat (first | (with_reducible first | exact HB.out | apply bAl | apply pBn | apply bD1 | refine bSt ?_ GE293.out | refine bSt ?_ GE295.out | refine bSt ?_ GE298.out | refine bSt ?_ GE300.out) | exact HB.out)⟩⟩
        ·rw [if_neg c50] at H
         have c50b0 : decide (t297 < ((rd_T23 l0 x6_1).f1)) = false := decide_eq_false c50
         clear c50
         (first | rw [c50b0] | (simp only [i64_w, i32_w]; rw [c50b0]) | skip)
         have H' := A0_.mk H
         clear H
         go_wp2
         go_meet
         case rel => exact ⟨_, ((rd_T23 l0 x6_1).f0), ((rd_T23 l0 x6_1).f1), (t296), (t297), H', ⟨by have := HK1.out; first | omega | exact Nat.le_refl _⟩, ⟨by (with_reducible repeat (first | refine kDn ?_ _ | refine kDr ?_ | refine kAl ?_ _)); exact BK293.out⟩, ⟨by (with_reducible repeat (first | refine kDn ?_ _ | refine kDr ?_ | refine kAl ?_ _)); exact BK295.out⟩, ⟨by (with_reducible repeat (first | refine kDn ?_ _ | refine kDr ?_ | refine kAl ?_ _)); exact BK298.out⟩, ⟨by repeat (first | (with_reducible first | exact HB.out | apply bAl | apply pBn | apply bD1 | refine bSt ?_ GE293.out | refine bSt ?_ GE295.out | refine bSt ?_ GE298.out) | exact HB.out)⟩⟩
       case rest =>
        clear HC35
        try clear c1
        try clear c2
        try clear p2
        try clear q2
        try clear hx2
        try clear c3
        try clear c4
        try clear c4b0
        try clear c5
        try clear c5b0
        try clear p6
        try clear c8
        try clear c10
        try clear c14
        try clear c15
        try clear c20
        try clear c20b0
        try clear c20b1
        try clear c20b2
        try clear c22
        try clear c26
        try clear c27
        try clear p29
        try clear q29
        try clear hx29
        try clear c37
        try clear c41
        try clear c42
        try clear c45
        try clear c48
        try clear c50
        try clear c50b0
        try clear c51
        try clear c52
        try clear c54
        try clear c55
        try clear c56
        try clear c57
        try clear c59
        try clear hcz11_0
        try clear hcz11_1
        try clear hcz16_0
        try clear hcz16_1
        try clear hcz17_0
        try clear hcz17_1
        try clear hcz18_0
        try clear hcz18_1
        try clear hcz23_0
        try clear hcz23_1
        try clear hcz28_0
        try clear hcz28_1
        try clear hcz29_0
        try clear hcz29_1
        try clear hcz30_0
        try clear hcz30_1
        try clear hcz32_0
        try clear hcz32_1
        try clear hcz33_0
        try clear hcz33_1
        try clear hcz34_0
        try clear hcz34_1
        try clear hcz38_0
        try clear hcz38_1
        try clear hcz43_0
        try clear hcz43_1
        try clear hcz44_0
        try clear hcz44_1
        try clear hcz45_0
        try clear hcz45_1
        try clear hcz47_0
        try clear hcz47_1
        try clear hcz48_0
        try clear hcz48_1
        try clear hcz49_0
        try clear hcz49_1
        try clear hcz53_0
        try clear hcz53_1
        try clear hcz58_0
        try clear hcz58_1
        try clear hcz60_0
        try clear hcz60_1
        try clear hcz61_0
        try clear hcz61_1
        try clear hfz11_0
        try clear hfz11_1
        try clear hfz16_0
        try clear hfz16_1
        try clear hfz17_0
        try clear hfz17_1
        try clear hfz18_0
        try clear hfz18_1
        try clear hfz23_0
        try clear hfz23_1
        try clear hfz28_0
        try clear hfz28_1
        try clear hfz29_0
        try clear hfz29_1
        try clear hfz30_0
        try clear hfz30_1
        try clear hfz32_0
        try clear hfz32_1
        try clear hfz33_0
        try clear hfz33_1
        try clear hfz34_0
        try clear hfz34_1
        try clear hfz38_0
        try clear hfz38_1
        try clear hfz43_0
        try clear hfz43_1
        try clear hfz44_0
        try clear hfz44_1
        try clear hfz45_0
        try clear hfz45_1
        try clear hfz47_0
        try clear hfz47_1
        try clear hfz48_0
        try clear hfz48_1
        try clear hfz49_0
        try clear hfz49_1
        try clear hfz53_0
        try clear hfz53_1
        try clear hfz58_0
        try clear hfz58_1
        try clear hfz60_0
        try clear hfz60_1
        try clear hfz61_0
        try clear hfz61_1
        try clear hx294_0
        try clear hx294_1
        try clear p2
        try clear p294
        try clear q294
        obtain ⟨kq, x296000_34, x296001_34, x299000_34, x299001_34, HA, HJ34, BK293, BK295, BK298, HB⟩ := hcut
        cases kq with
        | zero => exact absurd HA.out (by simp [windhoverref09_Inside.j1])
        | succ kj34 =>
         have H := HA.out
         clear HA
         simp only [windhoverref09_Inside.j1] at H
         replace H := Option.bind_eq_some_iff.mp H
         obtain ⟨t301, A620, H⟩ := H
         replace H : (if t301 > 0 then (windhoverref09_Inside.l0 kj34 l0 (wrap64 (-x5_1)) (wrap64 (x6_1 + 1)) a1_0 a1_1) else (windhoverref09_Inside.l0 kj34 l0 x5_1 (wrap64 (x6_1 + 1)) a1_0 a1_1)) = some r := H
         have A62 := A0_.mk A620
         clear A620
         by_cases c63 : t301 > 0
         ·rw [if_pos c63] at H
          have c63b0 : decide (0 < t301) = true := decide_eq_true c63
          clear c63
          have H' := A0_.mk H
          clear H
          have hnb64 := NB295_293.out
          have hnc64 := NB293_295.out
          have hnb65 := NB295_298.out
          have hnc65 := NB298_295.out
          have hcz66_0 : wc.cell? ⟨gb295, 0, none⟩ = some (.int .i64 x296000_34) := (kCe BK295.out 0).trans rfl
          have hcz66_1 : wc.cell? ⟨gb295, 1, none⟩ = some (.int .i64 x296001_34) := (kCe BK295.out 1).trans rfl
          have hfz66_0 := kFr BK295.out 0
          have hfz66_1 := kFr BK295.out 1
          have hnb67 := NB298_293.out
          have hnc67 := NB293_298.out
          have hcz68_0 : wc.cell? ⟨gb298, 0, none⟩ = some (.int .i64 x299000_34) := (kCe BK298.out 0).trans rfl
          have hcz68_1 : wc.cell? ⟨gb298, 1, none⟩ = some (.int .i64 x299001_34) := (kCe BK298.out 1).trans rfl
          have hfz68_0 := kFr BK298.out 0
          have hfz68_1 := kFr BK298.out 1
          have hcz69_0 : wc.cell? ⟨gb293, 0, none⟩ = some (.int .i64 a1_0) := (kCe BK293.out 0).trans rfl
          have hcz69_1 : wc.cell? ⟨gb293, 1, none⟩ = some (.int .i64 a1_1) := (kCe BK293.out 1).trans rfl
          have hfz69_0 := kFr BK293.out 0
          have hfz69_1 := kFr BK293.out 1
          go_wp2_with (first | ((with_reducible refine gate_callee (f := 38) rfl ?_); refine goesL_ (some 49) rfl rfl Try.func38 (by kernel_rfl) rfl #[.agg #[.int .i64 x296000_34, .int .i64 x296001_34], .agg #[.int .i64 x299000_34, .int .i64 x299001_34], .agg #[.int .i64 a1_0, .int .i64 a1_1]] rfl (by (try simp only [List.map_toArray, List.map_cons, List.map_nil]); first | done | rfl | (simp only [List.length_drop, List.length_take]; rfl)) ?_; (with_reducible refine (windhoverref09_Cross.calls x296000_34 x296001_34 x299000_34 x299001_34 a1_0 a1_1 t301 _ A62.out).mono ?_); rintro e w70 ⟨rfl, hb⟩; refine ⟨_, rfl, ?_⟩; have n0_ := A0_.mk (kBe (g := gb293) (o := .cells #[.int .i64 a1_0, .int .i64 a1_1] 23 (0, 0)) (by (with_reducible repeat (first | refine kDn ?_ _ | refine kDr ?_ | refine kAl ?_ _)); exact BK293.out) hb); have n1_ := A0_.mk (kBe (g := gb295) (o := .cells #[.int .i64 x296000_34, .int .i64 x296001_34] 23 (0, 0)) (by (with_reducible repeat (first | refine kDn ?_ _ | refine kDr ?_ | refine kAl ?_ _)); exact BK295.out) hb); have n2_ := A0_.mk (kBe (g := gb298) (o := .cells #[.int .i64 x299000_34, .int .i64 x299001_34] 23 (0, 0)) (by (with_reducible repeat (first | refine kDn ?_ _ | refine kDr ?_ | refine kAl ?_ _)); exact BK298.out) hb); have n3_ := A0_.mk (bSp (by repeat (first | (with_reducible first | exact HB.out | apply bAl | apply pBn | apply bD1 | refine bSt ?_ GE293.out | refine bSt ?_ GE295.out | refine bSt ?_ GE298.out) | exact HB.out)) hb); clear BK293; clear BK295; clear BK298; clear HB; have BK293 := n0_; have BK295 := n1_; have BK298 := n2_; have HB := n3_; clear n0_ n1_ n2_ n3_; (try clear hb); (try clear hb2); (try clear hk); (try clear hi)))
          go_roundg kj34
          case measure => have := HK1.out; have := HJ34.out; omega
          case rel => exact ⟨(wrap64 (-x5_1)), (wrap64 (x6_1 + 1)), (by first | rfl | (simp; done) | (simp [*]; done)), (by first | rfl | (simp; done) | (simp [*]; done)), H', ⟨by have := HK1.out; have := HJ34.out; omega⟩, ⟨by (with_reducible repeat (first | refine kDn ?_ _ | refine kDr ?_ | refine kAl ?_ _)); exact BK293.out⟩, ⟨by repeat (first | (with_reducible first | exact HB.out | apply bAl | apply pBn | apply bD1 | refine bSt ?_ GE293.out | refine bSt ?_ GE295.out | refine bSt ?_ GE298.out) | exact HB.out)⟩⟩
         ·rw [if_neg c63] at H
          have c63b0 : decide (0 < t301) = false := decide_eq_false c63
          clear c63
          have H' := A0_.mk H
          clear H
          have hnb71 := NB295_293.out
          have hnc71 := NB293_295.out
          have hnb72 := NB295_298.out
          have hnc72 := NB298_295.out
          have hcz73_0 : wc.cell? ⟨gb295, 0, none⟩ = some (.int .i64 x296000_34) := (kCe BK295.out 0).trans rfl
          have hcz73_1 : wc.cell? ⟨gb295, 1, none⟩ = some (.int .i64 x296001_34) := (kCe BK295.out 1).trans rfl
          have hfz73_0 := kFr BK295.out 0
          have hfz73_1 := kFr BK295.out 1
          have hnb74 := NB298_293.out
          have hnc74 := NB293_298.out
          have hcz75_0 : wc.cell? ⟨gb298, 0, none⟩ = some (.int .i64 x299000_34) := (kCe BK298.out 0).trans rfl
          have hcz75_1 : wc.cell? ⟨gb298, 1, none⟩ = some (.int .i64 x299001_34) := (kCe BK298.out 1).trans rfl
          have hfz75_0 := kFr BK298.out 0
          have hfz75_1 := kFr BK298.out 1
          have hcz76_0 : wc.cell? ⟨gb293, 0, none⟩ = some (.int .i64 a1_0) := (kCe BK293.out 0).trans rfl
          have hcz76_1 : wc.cell? ⟨gb293, 1, none⟩ = some (.int .i64 a1_1) := (kCe BK293.out 1).trans rfl
          have hfz76_0 := kFr BK293.out 0
          have hfz76_1 := kFr BK293.out 1
          go_wp2_with (first | ((with_reducible refine gate_callee (f := 38) rfl ?_); refine goesL_ (some 49) rfl rfl Try.func38 (by kernel_rfl) rfl #[.agg #[.int .i64 x296000_34, .int .i64 x296001_34], .agg #[.int .i64 x299000_34, .int .i64 x299001_34], .agg #[.int .i64 a1_0, .int .i64 a1_1]] rfl (by (try simp only [List.map_toArray, List.map_cons, List.map_nil]); first | done | rfl | (simp only [List.length_drop, List.length_take]; rfl)) ?_; (with_reducible refine (windhoverref09_Cross.calls x296000_34 x296001_34 x299000_34 x299001_34 a1_0 a1_1 t301 _ A62.out).mono ?_); rintro e w77 ⟨rfl, hb⟩; refine ⟨_, rfl, ?_⟩; have n0_ := A0_.mk (kBe (g := gb293) (o := .cells #[.int .i64 a1_0, .int .i64 a1_1] 23 (0, 0)) (by (with_reducible repeat (first | refine kDn ?_ _ | refine kDr ?_ | refine kAl ?_ _)); exact BK293.out) hb); have n1_ := A0_.mk (kBe (g := gb295) (o := .cells #[.int .i64 x296000_34, .int .i64 x296001_34] 23 (0, 0)) (by (with_reducible repeat (first | refine kDn ?_ _ | refine kDr ?_ | refine kAl ?_ _)); exact BK295.out) hb); have n2_ := A0_.mk (kBe (g := gb298) (o := .cells #[.int .i64 x299000_34, .int .i64 x299001_34] 23 (0, 0)) (by (with_reducible repeat (first | refine kDn ?_ _ | refine kDr ?_ | refine kAl ?_ _)); exact BK298.out) hb); have n3_ := A0_.mk (bSp (by repeat (first | (with_reducible first | exact HB.out | apply bAl | apply pBn | apply bD1 | refine bSt ?_ GE293.out | refine bSt ?_ GE295.out | refine bSt ?_ GE298.out) | exact HB.out)) hb); clear BK293; clear BK295; clear BK298; clear HB; have BK293 := n0_; have BK295 := n1_; have BK298 := n2_; have HB := n3_; clear n0_ n1_ n2_ n3_; (try clear hb); (try clear hb2); (try clear hk); (try clear hi)))
          go_roundg kj34
          case measure => have := HK1.out; have := HJ34.out; omega
          case rel => exact ⟨(x5_1), (wrap64 (x6_1 + 1)), (by first | rfl | (simp; done) | (simp [*]; done)), (by first | rfl | (simp; done) | (simp [*]; done)), H', ⟨by have := HK1.out; have := HJ34.out; omega⟩, ⟨by (with_reducible repeat (first | refine kDn ?_ _ | refine kDr ?_ | refine kAl ?_ _)); exact BK293.out⟩, ⟨by repeat (first | (with_reducible first | exact HB.out | apply bAl | apply pBn | apply bD1 | refine bSt ?_ GE293.out | refine bSt ?_ GE295.out | refine bSt ?_ GE298.out) | exact HB.out)⟩⟩
    ·rw [if_neg c5] at H
     exact absurd H (by simp)
   ·rw [if_neg c4] at H
    have c4b0 : decide (x6_1 < (l0.length : Int)) = false := decide_eq_false c4
    clear c4
    obtain rfl := Option.some.inj H
    go_wp2
    go_ret
    exact ⟨by first | rfl | (simp [errW_none, errW_some] <;> rfl) | (simp [*, errW_none, errW_some] <;> rfl), by repeat (first | (with_reducible first | exact HB.out | apply bAl | apply pBn | apply bD1 | refine bSt ?_ GE293.out) | exact HB.out)⟩

/-! ### windhoverref09_Side: function 28 -/
def windhoverref09_Side.f (k : Nat) (l0 : List (S23)) (a1_0 : Int) (a1_1 : Int) : Option (Int × Int) := (windhoverref09_Simple.f k l0).bind fun t303 => (if t303 = 0 then ((windhoverref09_Fits.f a1_0 a1_1).bind fun t304 => (if t304 = true then ((windhoverref09_Inside.f k l0 a1_0 a1_1).bind fun t305 => (some (t305, 0))) else (some (0, 5)))) else (some (0, t303)))
theorem windhoverref09_Side.mono : ∀ a0 a1 a2 k, LeO (windhoverref09_Side.f k a0 a1 a2) (windhoverref09_Side.f (k + 1) a0 a1 a2) := by
 intro a0 a1 a2 k
 unfold windhoverref09_Side.f
 repeat' first
   | (with_reducible exact windhoverref09_Inside.mono _ _ _ _)
   | (with_reducible exact windhoverref09_Simple.mono _ _)
   | (with_reducible exact LeO.refl _)
   | (with_reducible exact LeO.none _)
   | (with_reducible refine LeO.ite ?_ ?_)
   | (with_reducible refine LeO.bind ?_ (fun _ => ?_))
   | exact windhoverref09_Inside.mono _ _ _ _
   | exact windhoverref09_Simple.mono _ _
   | exact LeO.none _
   | refine LeO.ite ?_ ?_
   | refine LeO.bind ?_ (fun _ => ?_)
set_option maxHeartbeats 8000000 in
set_option maxRecDepth 100000 in
theorem windhoverref09_Side.calls (k : Nat) (A0 : Option Addr) (c0 : Nat) (l0 : List (S23)) (a1_0 : Int) (a1_1 : Int) (r1 : Int) (r2 : Int) (w : World) (hr0 : Kd.C k23 w A0 l0.length l0) (hc0 : l0.length ≤ c0) (h : windhoverref09_Side.f k l0 a1_0 a1_1 = some (r1, r2)) :
  Calls Try.prog 28 #[.slice A0 l0.length c0, .agg #[.int .i64 a1_0, .int .i64 a1_1]] w fun e w' => e = .returned (.tuple #[.int .i64 r1, .int .i64 r2]) ∧ Below w.heap.size w w' := by
 have hu23 := Try.underlying23
 have HR0 := A0_.mk hr0
 have HC0 := A0_.mk hc0
 clear hr0 hc0
 have HB := A0_.mk (Below.refl w.heap.size w)
 have H : ((windhoverref09_Simple.f k l0).bind fun t303 => (if t303 = 0 then ((windhoverref09_Fits.f a1_0 a1_1).bind fun t304 => (if t304 = true then ((windhoverref09_Inside.f k l0 a1_0 a1_1).bind fun t305 => (some (t305, 0))) else (some (0, 5)))) else (some (0, t303)))) = some (r1, r2) := h
 clear h
 replace H := Option.bind_eq_some_iff.mp H
 obtain ⟨t303, A30, H⟩ := H
 replace H : (if t303 = 0 then ((windhoverref09_Fits.f a1_0 a1_1).bind fun t304 => (if t304 = true then ((windhoverref09_Inside.f k l0 a1_0 a1_1).bind fun t305 => (some (t305, 0))) else (some (0, 5)))) else (some (0, t303))) = some (r1, r2) := H
 have A3 := A0_.mk A30
 clear A30
 by_cases c4 : t303 = 0
 ·rw [if_pos c4] at H
  have c4b0 : (t303 == 0) = true := beq_iff_eq.mpr c4
  have c4b1 : (t303 != 0) = false := bne_eq_false_iff_eq.mpr c4
  clear c4
  replace H := Option.bind_eq_some_iff.mp H
  obtain ⟨t304, A50, H⟩ := H
  replace H : (if t304 = true then ((windhoverref09_Inside.f k l0 a1_0 a1_1).bind fun t305 => (some (t305, 0))) else (some (0, 5))) = some (r1, r2) := H
  have A5 := A0_.mk A50
  clear A50
  by_cases c6 : t304 = true
  ·subst c6
   have H1 : ((windhoverref09_Inside.f k l0 a1_0 a1_1).bind fun t305 => (some (t305, 0))) = some (r1, r2) := by rw [if_pos rfl] at H; exact H
   clear H
   have H := H1
   clear H1
   replace H := Option.bind_eq_some_iff.mp H
   obtain ⟨t305, A70, H⟩ := H
   replace H : (some (t305, 0)) = some (r1, r2) := H
   have A7 := A0_.mk A70
   clear A70
   simp only [Option.some.injEq, Prod.mk.injEq] at H
   obtain ⟨rfl, rfl⟩ := H
   go_enter Try.func28, Try.ntmps28
   go_wp2_with (first | ((with_reducible refine gate_dst (N := 3) rfl ?_); refine box_event ?hg (N := 3) ?hd (cs := #[.int .i64 a1_0, .int .i64 a1_1]) (t := 23) ?hr ?_; (case hd => rfl); (case hg => rfl); (case hr => first | (go_simp; done) | (go_simp; rfl)); intro gb302 hg w8 hbox hb; have n0_ := A0_.mk (bSp (by repeat (first | (with_reducible first | exact HB.out | apply bAl | apply pBn | apply bD1) | exact HB.out)) hb); have n1_ := A0_.mk (hbox); have n2_ := A0_.mk ((by rw [hg]; exact (bSz (by repeat (first | (with_reducible first | exact HB.out | apply bAl | apply pBn | apply bD1) | exact HB.out))) : w.heap.size ≤ gb302)); have n3_ := A0_.mk ((by rw [hg]; exact (bSz (by repeat (first | (with_reducible first | exact HB.out | apply bAl | apply pBn | apply bD1) | exact HB.out))) : w.heap.size ≤ gb302)); clear HB; have HB := n0_; have BK302 := n1_; have GW302 := n2_; have GE302 := n3_; clear n0_ n1_ n2_ n3_; clear hb hbox hg) | ((with_reducible refine gate_callee (f := 25) rfl ?_); refine goesL_ (some 8) rfl rfl Try.func25 (by kernel_rfl) rfl #[.slice A0 l0.length c0] rfl (by (try simp only [List.map_toArray, List.map_cons, List.map_nil]); first | done | rfl | (simp only [List.length_drop, List.length_take]; rfl)) ?_; (with_reducible refine (windhoverref09_Simple.calls k _ _ l0 t303 _ ?side1 ?side2 A3.out).mono ?_); (case side1 => repeat (first | exact (Kd.C_below HR0.out HB.out) | (with_reducible refine Kd.C_alloc ?_ _) | (with_reducible refine Kd.C_drewN ?_ _) | (with_reducible refine Kd.C_drew ?_))); (case side2 => exact HC0.out); rintro e w9 ⟨rfl, hb⟩; refine ⟨_, rfl, ?_⟩; have n0_ := A0_.mk (kBe (g := gb302) (o := .cells #[.int .i64 a1_0, .int .i64 a1_1] 23 (0, 0)) (by (with_reducible repeat (first | refine kDn ?_ _ | refine kDr ?_ | refine kAl ?_ _)); exact BK302.out) hb); have n1_ := A0_.mk (bSp (by repeat (first | (with_reducible first | exact HB.out | apply bAl | apply pBn | apply bD1 | refine bSt ?_ GE302.out) | exact HB.out)) hb); clear BK302; clear HB; have BK302 := n0_; have HB := n1_; clear n0_ n1_; (try clear hb); (try clear hb2); (try clear hk); (try clear hi); have hcz10_0 : w9.cell? ⟨gb302, 0, none⟩ = some (.int .i64 a1_0) := (kCe BK302.out 0).trans rfl; have hcz10_1 : w9.cell? ⟨gb302, 1, none⟩ = some (.int .i64 a1_1) := (kCe BK302.out 1).trans rfl; have hfz10_0 := kFr BK302.out 0; have hfz10_1 := kFr BK302.out 1) | ((with_reducible refine gate_callee (f := 36) rfl ?_); refine goesL_ (some 13) rfl rfl Try.func36 (by kernel_rfl) rfl #[.agg #[.int .i64 a1_0, .int .i64 a1_1]] rfl (by (try simp only [List.map_toArray, List.map_cons, List.map_nil]); first | done | rfl | (simp only [List.length_drop, List.length_take]; rfl)) ?_; (with_reducible refine (windhoverref09_Fits.calls a1_0 a1_1 true _ A5.out).mono ?_); rintro e w11 ⟨rfl, hb⟩; refine ⟨_, rfl, ?_⟩; have n0_ := A0_.mk (kBe (g := gb302) (o := .cells #[.int .i64 a1_0, .int .i64 a1_1] 23 (0, 0)) (by (with_reducible repeat (first | refine kDn ?_ _ | refine kDr ?_ | refine kAl ?_ _)); exact BK302.out) hb); have n1_ := A0_.mk (bSp (by repeat (first | (with_reducible first | exact HB.out | apply bAl | apply pBn | apply bD1 | refine bSt ?_ GE302.out) | exact HB.out)) hb); clear BK302; clear HB; have BK302 := n0_; have HB := n1_; clear n0_ n1_; (try clear hb); (try clear hb2); (try clear hk); (try clear hi); have hcz12_0 : w11.cell? ⟨gb302, 0, none⟩ = some (.int .i64 a1_0) := (kCe BK302.out 0).trans rfl; have hcz12_1 : w11.cell? ⟨gb302, 1, none⟩ = some (.int .i64 a1_1) := (kCe BK302.out 1).trans rfl; have hfz12_0 := kFr BK302.out 0; have hfz12_1 := kFr BK302.out 1) | ((with_reducible refine gate_callee (f := 48) rfl ?_); refine goesL_ (some 17) rfl rfl Try.func48 (by kernel_rfl) rfl #[.slice A0 l0.length c0, .agg #[.int .i64 a1_0, .int .i64 a1_1]] rfl (by (try simp only [List.map_toArray, List.map_cons, List.map_nil]); first | done | rfl | (simp only [List.length_drop, List.length_take]; rfl)) ?_; (with_reducible refine (windhoverref09_Inside.calls k _ _ l0 a1_0 a1_1 t305 _ ?side1 ?side2 A7.out).mono ?_); (case side1 => repeat (first | exact (Kd.C_below HR0.out HB.out) | (with_reducible refine Kd.C_alloc ?_ _) | (with_reducible refine Kd.C_drewN ?_ _) | (with_reducible refine Kd.C_drew ?_))); (case side2 => exact HC0.out); rintro e w13 ⟨rfl, hb⟩; refine ⟨_, rfl, ?_⟩; have n0_ := A0_.mk (kBe (g := gb302) (o := .cells #[.int .i64 a1_0, .int .i64 a1_1] 23 (0, 0)) (by (with_reducible repeat (first | refine kDn ?_ _ | refine kDr ?_ | refine kAl ?_ _)); exact BK302.out) hb); have n1_ := A0_.mk (bSp (by repeat (first | (with_reducible first | exact HB.out | apply bAl | apply pBn | apply bD1 | refine bSt ?_ GE302.out) | exact HB.out)) hb); clear BK302; clear HB; have BK302 := n0_; have HB := n1_; clear n0_ n1_; (try clear hb); (try clear hb2); (try clear hk); (try clear hi)))
   go_ret2
   exact ⟨by first | rfl | (simp [errW_none, errW_some] <;> rfl) | (simp [*, errW_none, errW_some] <;> rfl), by repeat (first | (with_reducible first | exact HB.out | apply bAl | apply pBn | apply bD1 | refine bSt ?_ GE302.out) | exact HB.out)⟩
  ·replace c6 := Bool.eq_false_iff.mpr c6
   subst c6
   have H1 : (some (0, 5)) = some (r1, r2) := by rw [if_neg (show ¬ (false = true) by decide)] at H; exact H
   clear H
   have H := H1
   clear H1
   simp only [Option.some.injEq, Prod.mk.injEq] at H
   obtain ⟨rfl, rfl⟩ := H
   go_enter Try.func28, Try.ntmps28
   go_wp2_with (first | ((with_reducible refine gate_dst (N := 3) rfl ?_); refine box_event ?hg (N := 3) ?hd (cs := #[.int .i64 a1_0, .int .i64 a1_1]) (t := 23) ?hr ?_; (case hd => rfl); (case hg => rfl); (case hr => first | (go_simp; done) | (go_simp; rfl)); intro gb302 hg w14 hbox hb; have n0_ := A0_.mk (bSp (by repeat (first | (with_reducible first | exact HB.out | apply bAl | apply pBn | apply bD1) | exact HB.out)) hb); have n1_ := A0_.mk (hbox); have n2_ := A0_.mk ((by rw [hg]; exact (bSz (by repeat (first | (with_reducible first | exact HB.out | apply bAl | apply pBn | apply bD1) | exact HB.out))) : w.heap.size ≤ gb302)); have n3_ := A0_.mk ((by rw [hg]; exact (bSz (by repeat (first | (with_reducible first | exact HB.out | apply bAl | apply pBn | apply bD1) | exact HB.out))) : w.heap.size ≤ gb302)); clear HB; have HB := n0_; have BK302 := n1_; have GW302 := n2_; have GE302 := n3_; clear n0_ n1_ n2_ n3_; clear hb hbox hg) | ((with_reducible refine gate_callee (f := 25) rfl ?_); refine goesL_ (some 8) rfl rfl Try.func25 (by kernel_rfl) rfl #[.slice A0 l0.length c0] rfl (by (try simp only [List.map_toArray, List.map_cons, List.map_nil]); first | done | rfl | (simp only [List.length_drop, List.length_take]; rfl)) ?_; (with_reducible refine (windhoverref09_Simple.calls k _ _ l0 t303 _ ?side1 ?side2 A3.out).mono ?_); (case side1 => repeat (first | exact (Kd.C_below HR0.out HB.out) | (with_reducible refine Kd.C_alloc ?_ _) | (with_reducible refine Kd.C_drewN ?_ _) | (with_reducible refine Kd.C_drew ?_))); (case side2 => exact HC0.out); rintro e w15 ⟨rfl, hb⟩; refine ⟨_, rfl, ?_⟩; have n0_ := A0_.mk (kBe (g := gb302) (o := .cells #[.int .i64 a1_0, .int .i64 a1_1] 23 (0, 0)) (by (with_reducible repeat (first | refine kDn ?_ _ | refine kDr ?_ | refine kAl ?_ _)); exact BK302.out) hb); have n1_ := A0_.mk (bSp (by repeat (first | (with_reducible first | exact HB.out | apply bAl | apply pBn | apply bD1 | refine bSt ?_ GE302.out) | exact HB.out)) hb); clear BK302; clear HB; have BK302 := n0_; have HB := n1_; clear n0_ n1_; (try clear hb); (try clear hb2); (try clear hk); (try clear hi); have hcz16_0 : w15.cell? ⟨gb302, 0, none⟩ = some (.int .i64 a1_0) := (kCe BK302.out 0).trans rfl; have hcz16_1 : w15.cell? ⟨gb302, 1, none⟩ = some (.int .i64 a1_1) := (kCe BK302.out 1).trans rfl; have hfz16_0 := kFr BK302.out 0; have hfz16_1 := kFr BK302.out 1) | ((with_reducible refine gate_callee (f := 36) rfl ?_); refine goesL_ (some 13) rfl rfl Try.func36 (by kernel_rfl) rfl #[.agg #[.int .i64 a1_0, .int .i64 a1_1]] rfl (by (try simp only [List.map_toArray, List.map_cons, List.map_nil]); first | done | rfl | (simp only [List.length_drop, List.length_take]; rfl)) ?_; (with_reducible refine (windhoverref09_Fits.calls a1_0 a1_1 false _ A5.out).mono ?_); rintro e w17 ⟨rfl, hb⟩; refine ⟨_, rfl, ?_⟩; have n0_ := A0_.mk (kBe (g := gb302) (o := .cells #[.int .i64 a1_0, .int .i64 a1_1] 23 (0, 0)) (by (with_reducible repeat (first | refine kDn ?_ _ | refine kDr ?_ | refine kAl ?_ _)); exact BK302.out) hb); have n1_ := A0_.mk (bSp (by repeat (first | (with_reducible first | exact HB.out | apply bAl | apply pBn | apply bD1 | refine bSt ?_ GE302.out) | exact HB.out)) hb); clear BK302; clear HB; have BK302 := n0_; have HB := n1_; clear n0_ n1_; (try clear hb); (try clear hb2); (try clear hk); (try clear hi)))
   go_ret2
   exact ⟨by first | rfl | (simp [errW_none, errW_some] <;> rfl) | (simp [*, errW_none, errW_some] <;> rfl), by repeat (first | (with_reducible first | exact HB.out | apply bAl | apply pBn | apply bD1 | refine bSt ?_ GE302.out) | exact HB.out)⟩
 ·rw [if_neg c4] at H
  have c4b0 : (t303 == 0) = false := beq_eq_false_iff_ne.mpr c4
  have c4b1 : (t303 != 0) = true := bne_iff_ne.mpr c4
  simp only [Option.some.injEq, Prod.mk.injEq] at H
  obtain ⟨rfl, rfl⟩ := H
  go_enter Try.func28, Try.ntmps28
  go_wp2_with (first | ((with_reducible refine gate_dst (N := 3) rfl ?_); refine box_event ?hg (N := 3) ?hd (cs := #[.int .i64 a1_0, .int .i64 a1_1]) (t := 23) ?hr ?_; (case hd => rfl); (case hg => rfl); (case hr => first | (go_simp; done) | (go_simp; rfl)); intro gb302 hg w18 hbox hb; have n0_ := A0_.mk (bSp (by repeat (first | (with_reducible first | exact HB.out | apply bAl | apply pBn | apply bD1) | exact HB.out)) hb); have n1_ := A0_.mk (hbox); have n2_ := A0_.mk ((by rw [hg]; exact (bSz (by repeat (first | (with_reducible first | exact HB.out | apply bAl | apply pBn | apply bD1) | exact HB.out))) : w.heap.size ≤ gb302)); have n3_ := A0_.mk ((by rw [hg]; exact (bSz (by repeat (first | (with_reducible first | exact HB.out | apply bAl | apply pBn | apply bD1) | exact HB.out))) : w.heap.size ≤ gb302)); clear HB; have HB := n0_; have BK302 := n1_; have GW302 := n2_; have GE302 := n3_; clear n0_ n1_ n2_ n3_; clear hb hbox hg) | ((with_reducible refine gate_callee (f := 25) rfl ?_); refine goesL_ (some 8) rfl rfl Try.func25 (by kernel_rfl) rfl #[.slice A0 l0.length c0] rfl (by (try simp only [List.map_toArray, List.map_cons, List.map_nil]); first | done | rfl | (simp only [List.length_drop, List.length_take]; rfl)) ?_; (with_reducible refine (windhoverref09_Simple.calls k _ _ l0 t303 _ ?side1 ?side2 A3.out).mono ?_); (case side1 => repeat (first | exact (Kd.C_below HR0.out HB.out) | (with_reducible refine Kd.C_alloc ?_ _) | (with_reducible refine Kd.C_drewN ?_ _) | (with_reducible refine Kd.C_drew ?_))); (case side2 => exact HC0.out); rintro e w19 ⟨rfl, hb⟩; refine ⟨_, rfl, ?_⟩; have n0_ := A0_.mk (kBe (g := gb302) (o := .cells #[.int .i64 a1_0, .int .i64 a1_1] 23 (0, 0)) (by (with_reducible repeat (first | refine kDn ?_ _ | refine kDr ?_ | refine kAl ?_ _)); exact BK302.out) hb); have n1_ := A0_.mk (bSp (by repeat (first | (with_reducible first | exact HB.out | apply bAl | apply pBn | apply bD1 | refine bSt ?_ GE302.out) | exact HB.out)) hb); clear BK302; clear HB; have BK302 := n0_; have HB := n1_; clear n0_ n1_; (try clear hb); (try clear hb2); (try clear hk); (try clear hi)))
  go_ret2
  exact ⟨by first | rfl | (simp [errW_none, errW_some] <;> rfl) | (simp [*, errW_none, errW_some] <;> rfl), by repeat (first | (with_reducible first | exact HB.out | apply bAl | apply pBn | apply bD1 | refine bSt ?_ GE302.out) | exact HB.out)⟩

/-! ### windhoverlaw09_GeoSides: function 6 -/
def windhoverlaw09_GeoSides.j0 : Nat → Bool → Option (Bool)
 | 0, _ => none
 | k + 1, x4 => some x4
def windhoverlaw09_GeoSides.f (k : Nat) (l0 : List (S23)) (a1_0 : Int) (a1_1 : Int) : Option (Bool) := (windhoverlaw09_lent.f l0).bind fun t307 => ((geo_Side.f k t307 a1_0 a1_1).bind fun bt310 => ((windhoverref09_Side.f k l0 a1_0 a1_1).bind fun bt312 => ((windhoverlaw09_awake.f k).bind fun t314 => (if t314 = true then (if bt310.1 = bt312.1 then (if bt310.2 = bt312.2 then ((windhoverlaw09_kept.f k t307 l0).bind fun t315 => (windhoverlaw09_GeoSides.j0 k t315)) else (windhoverlaw09_GeoSides.j0 k false)) else (windhoverlaw09_GeoSides.j0 k false)) else (windhoverlaw09_GeoSides.j0 k false)))))
theorem windhoverlaw09_GeoSides.mono_l : ∀ k, (∀ y0, LeO (windhoverlaw09_GeoSides.j0 k y0) (windhoverlaw09_GeoSides.j0 (k + 1) y0))
 | 0 => fun _ r h => by simp [windhoverlaw09_GeoSides.j0] at h
 | k + 1 => by
  have ih0 := windhoverlaw09_GeoSides.mono_l k
  ·intro y0
   unfold windhoverlaw09_GeoSides.j0
   repeat' first
   | (with_reducible exact ih0 _)
   | (with_reducible exact geo_Side.mono _ _ _ _)
   | (with_reducible exact windhoverlaw09_awake.mono _)
   | (with_reducible exact windhoverlaw09_kept.mono _ _ _)
   | (with_reducible exact windhoverref09_Side.mono _ _ _ _)
   | (with_reducible exact LeO.refl _)
   | (with_reducible exact LeO.none _)
   | (with_reducible refine LeO.ite ?_ ?_)
   | (with_reducible refine LeO.bind ?_ (fun _ => ?_))
   | exact ih0 _
   | exact geo_Side.mono _ _ _ _
   | exact windhoverlaw09_awake.mono _
   | exact windhoverlaw09_kept.mono _ _ _
   | exact windhoverref09_Side.mono _ _ _ _
   | exact LeO.none _
   | refine LeO.ite ?_ ?_
   | refine LeO.bind ?_ (fun _ => ?_)
theorem windhoverlaw09_GeoSides.mono : ∀ a0 a1 a2 k, LeO (windhoverlaw09_GeoSides.f k a0 a1 a2) (windhoverlaw09_GeoSides.f (k + 1) a0 a1 a2) := by
 intro a0 a1 a2 k
 have ih0 := windhoverlaw09_GeoSides.mono_l k
 unfold windhoverlaw09_GeoSides.f
 repeat' first
   | (with_reducible exact ih0 _)
   | (with_reducible exact geo_Side.mono _ _ _ _)
   | (with_reducible exact windhoverlaw09_awake.mono _)
   | (with_reducible exact windhoverlaw09_kept.mono _ _ _)
   | (with_reducible exact windhoverref09_Side.mono _ _ _ _)
   | (with_reducible exact LeO.refl _)
   | (with_reducible exact LeO.none _)
   | (with_reducible refine LeO.ite ?_ ?_)
   | (with_reducible refine LeO.bind ?_ (fun _ => ?_))
   | exact ih0 _
   | exact geo_Side.mono _ _ _ _
   | exact windhoverlaw09_awake.mono _
   | exact windhoverlaw09_kept.mono _ _ _
   | exact windhoverref09_Side.mono _ _ _ _
   | exact LeO.none _
   | refine LeO.ite ?_ ?_
   | refine LeO.bind ?_ (fun _ => ?_)
set_option maxHeartbeats 8000000 in
set_option maxRecDepth 100000 in
theorem windhoverlaw09_GeoSides.calls (k : Nat) (A0 : Option Addr) (c0 : Nat) (l0 : List (S23)) (a1_0 : Int) (a1_1 : Int) (r : Bool) (w : World) (hr0 : Kd.C k23 w A0 l0.length l0) (hc0 : l0.length ≤ c0) (h : windhoverlaw09_GeoSides.f k l0 a1_0 a1_1 = some r) :
  Calls Try.prog 6 #[.slice A0 l0.length c0, .agg #[.int .i64 a1_0, .int .i64 a1_1]] w fun e w' => e = .returned (.bool r) ∧ Below w.heap.size w w' := by
 have hu23 := Try.underlying23
 have HR0 := A0_.mk hr0
 have HC0 := A0_.mk hc0
 clear hr0 hc0
 have HB := A0_.mk (Below.refl w.heap.size w)
 have H : ((windhoverlaw09_lent.f l0).bind fun t307 => ((geo_Side.f k t307 a1_0 a1_1).bind fun bt310 => ((windhoverref09_Side.f k l0 a1_0 a1_1).bind fun bt312 => ((windhoverlaw09_awake.f k).bind fun t314 => (if t314 = true then (if bt310.1 = bt312.1 then (if bt310.2 = bt312.2 then ((windhoverlaw09_kept.f k t307 l0).bind fun t315 => (windhoverlaw09_GeoSides.j0 k t315)) else (windhoverlaw09_GeoSides.j0 k false)) else (windhoverlaw09_GeoSides.j0 k false)) else (windhoverlaw09_GeoSides.j0 k false)))))) = some r := h
 clear h
 replace H := Option.bind_eq_some_iff.mp H
 obtain ⟨t307, A30, H⟩ := H
 replace H : ((geo_Side.f k t307 a1_0 a1_1).bind fun bt310 => ((windhoverref09_Side.f k l0 a1_0 a1_1).bind fun bt312 => ((windhoverlaw09_awake.f k).bind fun t314 => (if t314 = true then (if bt310.1 = bt312.1 then (if bt310.2 = bt312.2 then ((windhoverlaw09_kept.f k t307 l0).bind fun t315 => (windhoverlaw09_GeoSides.j0 k t315)) else (windhoverlaw09_GeoSides.j0 k false)) else (windhoverlaw09_GeoSides.j0 k false)) else (windhoverlaw09_GeoSides.j0 k false))))) = some r := H
 have A3 := A0_.mk A30
 clear A30
 replace H := Option.bind_eq_some_iff.mp H
 obtain ⟨⟨t310, t311⟩, A40, H⟩ := H
 replace H : ((windhoverref09_Side.f k l0 a1_0 a1_1).bind fun bt312 => ((windhoverlaw09_awake.f k).bind fun t314 => (if t314 = true then (if t310 = bt312.1 then (if t311 = bt312.2 then ((windhoverlaw09_kept.f k t307 l0).bind fun t315 => (windhoverlaw09_GeoSides.j0 k t315)) else (windhoverlaw09_GeoSides.j0 k false)) else (windhoverlaw09_GeoSides.j0 k false)) else (windhoverlaw09_GeoSides.j0 k false)))) = some r := H
 have A4 := A0_.mk A40
 clear A40
 replace H := Option.bind_eq_some_iff.mp H
 obtain ⟨⟨t312, t313⟩, A50, H⟩ := H
 replace H : ((windhoverlaw09_awake.f k).bind fun t314 => (if t314 = true then (if t310 = t312 then (if t311 = t313 then ((windhoverlaw09_kept.f k t307 l0).bind fun t315 => (windhoverlaw09_GeoSides.j0 k t315)) else (windhoverlaw09_GeoSides.j0 k false)) else (windhoverlaw09_GeoSides.j0 k false)) else (windhoverlaw09_GeoSides.j0 k false))) = some r := H
 have A5 := A0_.mk A50
 clear A50
 have HC6 := A0_.mk H
 clear H
 go_enter Try.func6, Try.ntmps6
 go_upto_region 4 with (first | ((with_reducible refine gate_dst (N := 3) rfl ?_); refine box_event ?hg (N := 3) ?hd (cs := #[.int .i64 a1_0, .int .i64 a1_1]) (t := 23) ?hr ?_; (case hd => rfl); (case hg => rfl); (case hr => first | (go_simp; done) | (go_simp; rfl)); intro gb306 hg w7 hbox hb; have n0_ := A0_.mk (bSp (by repeat (first | (with_reducible first | exact HB.out | apply bAl | apply pBn | apply bD1) | exact HB.out)) hb); have n1_ := A0_.mk (hbox); have n2_ := A0_.mk ((by rw [hg]; exact (bSz (by repeat (first | (with_reducible first | exact HB.out | apply bAl | apply pBn | apply bD1) | exact HB.out))) : w.heap.size ≤ gb306)); have n3_ := A0_.mk ((by rw [hg]; exact (bSz (by repeat (first | (with_reducible first | exact HB.out | apply bAl | apply pBn | apply bD1) | exact HB.out))) : w.heap.size ≤ gb306)); clear HB; have HB := n0_; have BK306 := n1_; have GW306 := n2_; have GE306 := n3_; clear n0_ n1_ n2_ n3_; clear hb hbox hg) | ((with_reducible refine gate_callee (f := 21) rfl ?_); refine goesL_ (some 11) rfl rfl Try.func21 (by kernel_rfl) rfl #[.slice A0 l0.length c0] rfl (by (try simp only [List.map_toArray, List.map_cons, List.map_nil]); first | done | rfl | (simp only [List.length_drop, List.length_take]; rfl)) ?_; (with_reducible refine (windhoverlaw09_lent.callsL _ _ l0 t307 _ ?side1 ?side2 A3.out).mono ?_); (case side1 => repeat (first | exact (Kd.C_below HR0.out HB.out) | (with_reducible refine Kd.C_alloc ?_ _) | (with_reducible refine Kd.C_drewN ?_ _) | (with_reducible refine Kd.C_drew ?_))); (case side2 => exact HC0.out); rintro e w8 ⟨v308, rfl, ho0, hb⟩; refine ⟨_, rfl, ?_⟩; have n0_ := A0_.mk (KL.R_lower (KL.R_newB ho0 (g := gb306) (o := .cells #[.int .i64 a1_0, .int .i64 a1_1] 23 (0, 0)) (by (with_reducible repeat (first | refine kDn ?_ _ | refine kDr ?_ | refine kAl ?_ _)); exact BK306.out)) (bSz (by repeat (first | (with_reducible first | exact HB.out | apply bAl | apply pBn | apply bD1 | refine bSt ?_ GE306.out) | exact HB.out)))); have n1_ := A0_.mk (kBe (g := gb306) (o := .cells #[.int .i64 a1_0, .int .i64 a1_1] 23 (0, 0)) (by (with_reducible repeat (first | refine kDn ?_ _ | refine kDr ?_ | refine kAl ?_ _)); exact BK306.out) hb); have n2_ := A0_.mk (bSp (by repeat (first | (with_reducible first | exact HB.out | apply bAl | apply pBn | apply bD1 | refine bSt ?_ GE306.out) | exact HB.out)) hb); clear BK306; clear HB; have HO309 := n0_; have BK306 := n1_; have HB := n2_; clear n0_ n1_ n2_; (try clear hb); (try clear hb2); (try clear hk); (try clear hi); (try clear ho0); have hcz9_0 : w8.cell? ⟨gb306, 0, none⟩ = some (.int .i64 a1_0) := (kCe BK306.out 0).trans rfl; have hcz9_1 : w8.cell? ⟨gb306, 1, none⟩ = some (.int .i64 a1_1) := (kCe BK306.out 1).trans rfl; have hfz9_0 := kFr BK306.out 0; have hfz9_1 := kFr BK306.out 1; obtain ⟨Ao10, co10, eo10⟩ := KL.R_slice HO309.out; subst eo10) | ((with_reducible refine gate_callee (f := 27) rfl ?_); refine goesL_ (some 15) rfl rfl Try.func27 (by kernel_rfl) rfl #[.slice Ao10 t307.length co10, .agg #[.int .i64 a1_0, .int .i64 a1_1]] rfl (by (try simp only [List.map_toArray, List.map_cons, List.map_nil]); first | done | rfl | (simp only [List.length_drop, List.length_take]; rfl)) ?_; (with_reducible refine (geo_Side.calls k _ _ t307 a1_0 a1_1 t310 t311 _ ?side1 ?side2 A4.out).mono ?_); (case side1 => repeat (first | exact (KL.R_reads' HO309.out).2.2 | (with_reducible refine Kd.C_alloc ?_ _) | (with_reducible refine Kd.C_drewN ?_ _) | (with_reducible refine Kd.C_drew ?_))); (case side2 => exact (KL.R_reads' HO309.out).2.1); rintro e w11 ⟨rfl, hb⟩; refine ⟨_, rfl, ?_⟩; have n0_ := A0_.mk (KL.R_below (by (with_reducible repeat (first | apply KL.R_alloc | apply KL.R_drewN | apply KL.R_drew)); exact HO309.out) hb); have n1_ := A0_.mk (kBe (g := gb306) (o := .cells #[.int .i64 a1_0, .int .i64 a1_1] 23 (0, 0)) (by (with_reducible repeat (first | refine kDn ?_ _ | refine kDr ?_ | refine kAl ?_ _)); exact BK306.out) hb); have n2_ := A0_.mk (bSp (by repeat (first | (with_reducible first | exact HB.out | apply bAl | apply pBn | apply bD1 | refine bSt ?_ GE306.out) | exact HB.out)) hb); clear HO309; clear BK306; clear HB; have HO309 := n0_; have BK306 := n1_; have HB := n2_; clear n0_ n1_ n2_; (try clear hb); (try clear hb2); (try clear hk); (try clear hi); have hcz12_0 : w11.cell? ⟨gb306, 0, none⟩ = some (.int .i64 a1_0) := (kCe BK306.out 0).trans rfl; have hcz12_1 : w11.cell? ⟨gb306, 1, none⟩ = some (.int .i64 a1_1) := (kCe BK306.out 1).trans rfl; have hfz12_0 := kFr BK306.out 0; have hfz12_1 := kFr BK306.out 1) | ((with_reducible refine gate_callee (f := 28) rfl ?_); refine goesL_ (some 21) rfl rfl Try.func28 (by kernel_rfl) rfl #[.slice A0 l0.length c0, .agg #[.int .i64 a1_0, .int .i64 a1_1]] rfl (by (try simp only [List.map_toArray, List.map_cons, List.map_nil]); first | done | rfl | (simp only [List.length_drop, List.length_take]; rfl)) ?_; (with_reducible refine (windhoverref09_Side.calls k _ _ l0 a1_0 a1_1 t312 t313 _ ?side1 ?side2 A5.out).mono ?_); (case side1 => repeat (first | exact (Kd.C_below HR0.out HB.out) | (with_reducible refine Kd.C_alloc ?_ _) | (with_reducible refine Kd.C_drewN ?_ _) | (with_reducible refine Kd.C_drew ?_))); (case side2 => exact HC0.out); rintro e w13 ⟨rfl, hb⟩; refine ⟨_, rfl, ?_⟩; have n0_ := A0_.mk (KL.R_below (by (with_reducible repeat (first | apply KL.R_alloc | apply KL.R_drewN | apply KL.R_drew)); exact HO309.out) hb); have n1_ := A0_.mk (kBe (g := gb306) (o := .cells #[.int .i64 a1_0, .int .i64 a1_1] 23 (0, 0)) (by (with_reducible repeat (first | refine kDn ?_ _ | refine kDr ?_ | refine kAl ?_ _)); exact BK306.out) hb); have n2_ := A0_.mk (bSp (by repeat (first | (with_reducible first | exact HB.out | apply bAl | apply pBn | apply bD1 | refine bSt ?_ GE306.out) | exact HB.out)) hb); clear HO309; clear BK306; clear HB; have HO309 := n0_; have BK306 := n1_; have HB := n2_; clear n0_ n1_ n2_; (try clear hb); (try clear hb2); (try clear hk); (try clear hi)))
 (try simp only [Act.put, lsT, lcZ, lcS])
 go_cut [4] (fun v4 wc => ∃ (kq : Nat) (x4_5 : Bool), v4 = .bool x4_5 ∧ A0_ (windhoverlaw09_GeoSides.j0 kq x4_5 = some r) ∧ A0_ (kq ≤ k) ∧ A0_ (wc.heap[gb306]? = some (.cells #[.int .i64 a1_0, .int .i64 a1_1] 23 (0, 0))) ∧ A0_ (Below w.heap.size w wc))
 case first =>
  have H := HC6.out
  clear HC6
  replace H := Option.bind_eq_some_iff.mp H
  obtain ⟨t314, A140, H⟩ := H
  replace H : (if t314 = true then (if t310 = t312 then (if t311 = t313 then ((windhoverlaw09_kept.f k t307 l0).bind fun t315 => (windhoverlaw09_GeoSides.j0 k t315)) else (windhoverlaw09_GeoSides.j0 k false)) else (windhoverlaw09_GeoSides.j0 k false)) else (windhoverlaw09_GeoSides.j0 k false)) = some r := H
  have A14 := A0_.mk A140
  clear A140
  by_cases c15 : t314 = true
  ·subst c15
   have H1 : (if t310 = t312 then (if t311 = t313 then ((windhoverlaw09_kept.f k t307 l0).bind fun t315 => (windhoverlaw09_GeoSides.j0 k t315)) else (windhoverlaw09_GeoSides.j0 k false)) else (windhoverlaw09_GeoSides.j0 k false)) = some r := by rw [if_pos rfl] at H; exact H
   clear H
   have H := H1
   clear H1
   by_cases c16 : t310 = t312
   ·rw [if_pos c16] at H
    have c16b0 : (t310 == t312) = true := beq_iff_eq.mpr c16
    have c16b1 : (t310 != t312) = false := bne_eq_false_iff_eq.mpr c16
    clear c16
    (first | rw [c16b0] | (simp only [i64_w, i32_w]; rw [c16b0]) | skip)
    by_cases c17 : t311 = t313
    ·rw [if_pos c17] at H
     have c17b0 : (t311 == t313) = true := beq_iff_eq.mpr c17
     have c17b1 : (t311 != t313) = false := bne_eq_false_iff_eq.mpr c17
     clear c17
     replace H := Option.bind_eq_some_iff.mp H
     obtain ⟨t315, A180, H⟩ := H
     replace H : (windhoverlaw09_GeoSides.j0 k t315) = some r := H
     have A18 := A0_.mk A180
     clear A180
     have H' := A0_.mk H
     clear H
     go_wp2_with (first | ((with_reducible refine gate_callee (f := 18) rfl ?_); refine goesL_ (some 24) rfl rfl Try.func18 (by kernel_rfl) rfl #[] rfl (by (try simp only [List.map_toArray, List.map_cons, List.map_nil]); first | done | rfl | (simp only [List.length_drop, List.length_take]; rfl)) ?_; (with_reducible refine (windhoverlaw09_awake.calls k  true _ A14.out).mono ?_); rintro e w19 ⟨rfl, hb⟩; refine ⟨_, rfl, ?_⟩; have n0_ := A0_.mk (KL.R_below (by (with_reducible repeat (first | apply KL.R_alloc | apply KL.R_drewN | apply KL.R_drew)); exact HO309.out) hb); have n1_ := A0_.mk (kBe (g := gb306) (o := .cells #[.int .i64 a1_0, .int .i64 a1_1] 23 (0, 0)) (by (with_reducible repeat (first | refine kDn ?_ _ | refine kDr ?_ | refine kAl ?_ _)); exact BK306.out) hb); have n2_ := A0_.mk (bSp (by repeat (first | (with_reducible first | exact HB.out | apply bAl | apply pBn | apply bD1 | refine bSt ?_ GE306.out) | exact HB.out)) hb); clear HO309; clear BK306; clear HB; have HO309 := n0_; have BK306 := n1_; have HB := n2_; clear n0_ n1_ n2_; (try clear hb); (try clear hb2); (try clear hk); (try clear hi)) | (go_at_call 26; (with_reducible refine (windhoverlaw09_kept.calls k _ _ t307 _ _ l0 t315 _ ?side1 ?side2 ?side3 ?side4 A18.out).mono ?_); (case side1 => exact ⟨_, _, by repeat (first | exact HO309.out | (with_reducible refine KL.R_alloc ?_ _) | (with_reducible refine KL.R_drewN ?_ _) | (with_reducible refine KL.R_drew ?_))⟩); (case side2 => exact (KL.R_reads' HO309.out).2.1); (case side3 => repeat (first | exact (Kd.C_below HR0.out HB.out) | (with_reducible refine Kd.C_alloc ?_ _) | (with_reducible refine Kd.C_drewN ?_ _) | (with_reducible refine Kd.C_drew ?_))); (case side4 => exact HC0.out); rintro e w' ⟨rfl, ⟨nd, rfl⟩⟩))
     go_meet
     case rel => exact ⟨_, (t315), (by first | rfl | (simp; done) | (simp [*]; done)), H', ⟨by first | omega | exact Nat.le_refl _⟩, ⟨by (with_reducible repeat (first | refine kDn ?_ _ | refine kDr ?_ | refine kAl ?_ _)); exact BK306.out⟩, ⟨by repeat (first | (with_reducible first | exact HB.out | apply bAl | apply pBn | apply bD1 | refine bSt ?_ GE306.out) | exact HB.out)⟩⟩
    ·rw [if_neg c17] at H
     have c17b0 : (t311 == t313) = false := beq_eq_false_iff_ne.mpr c17
     have c17b1 : (t311 != t313) = true := bne_iff_ne.mpr c17
     have H' := A0_.mk H
     clear H
     go_wp2_with (first | ((with_reducible refine gate_callee (f := 18) rfl ?_); refine goesL_ (some 24) rfl rfl Try.func18 (by kernel_rfl) rfl #[] rfl (by (try simp only [List.map_toArray, List.map_cons, List.map_nil]); first | done | rfl | (simp only [List.length_drop, List.length_take]; rfl)) ?_; (with_reducible refine (windhoverlaw09_awake.calls k  true _ A14.out).mono ?_); rintro e w20 ⟨rfl, hb⟩; refine ⟨_, rfl, ?_⟩; have n0_ := A0_.mk (KL.R_below (by (with_reducible repeat (first | apply KL.R_alloc | apply KL.R_drewN | apply KL.R_drew)); exact HO309.out) hb); have n1_ := A0_.mk (kBe (g := gb306) (o := .cells #[.int .i64 a1_0, .int .i64 a1_1] 23 (0, 0)) (by (with_reducible repeat (first | refine kDn ?_ _ | refine kDr ?_ | refine kAl ?_ _)); exact BK306.out) hb); have n2_ := A0_.mk (bSp (by repeat (first | (with_reducible first | exact HB.out | apply bAl | apply pBn | apply bD1 | refine bSt ?_ GE306.out) | exact HB.out)) hb); clear HO309; clear BK306; clear HB; have HO309 := n0_; have BK306 := n1_; have HB := n2_; clear n0_ n1_ n2_; (try clear hb); (try clear hb2); (try clear hk); (try clear hi)))
     go_meet
     case rel => exact ⟨_, (false), (by first | rfl | (simp; done) | (simp [*]; done)), H', ⟨by first | omega | exact Nat.le_refl _⟩, ⟨by (with_reducible repeat (first | refine kDn ?_ _ | refine kDr ?_ | refine kAl ?_ _)); exact BK306.out⟩, ⟨by repeat (first | (with_reducible first | exact HB.out | apply bAl | apply pBn | apply bD1 | refine bSt ?_ GE306.out) | exact HB.out)⟩⟩
   ·rw [if_neg c16] at H
    have c16b0 : (t310 == t312) = false := beq_eq_false_iff_ne.mpr c16
    have c16b1 : (t310 != t312) = true := bne_iff_ne.mpr c16
    (first | rw [c16b0] | (simp only [i64_w, i32_w]; rw [c16b0]) | skip)
    have H' := A0_.mk H
    clear H
    go_wp2_with (first | ((with_reducible refine gate_callee (f := 18) rfl ?_); refine goesL_ (some 24) rfl rfl Try.func18 (by kernel_rfl) rfl #[] rfl (by (try simp only [List.map_toArray, List.map_cons, List.map_nil]); first | done | rfl | (simp only [List.length_drop, List.length_take]; rfl)) ?_; (with_reducible refine (windhoverlaw09_awake.calls k  true _ A14.out).mono ?_); rintro e w21 ⟨rfl, hb⟩; refine ⟨_, rfl, ?_⟩; have n0_ := A0_.mk (KL.R_below (by (with_reducible repeat (first | apply KL.R_alloc | apply KL.R_drewN | apply KL.R_drew)); exact HO309.out) hb); have n1_ := A0_.mk (kBe (g := gb306) (o := .cells #[.int .i64 a1_0, .int .i64 a1_1] 23 (0, 0)) (by (with_reducible repeat (first | refine kDn ?_ _ | refine kDr ?_ | refine kAl ?_ _)); exact BK306.out) hb); have n2_ := A0_.mk (bSp (by repeat (first | (with_reducible first | exact HB.out | apply bAl | apply pBn | apply bD1 | refine bSt ?_ GE306.out) | exact HB.out)) hb); clear HO309; clear BK306; clear HB; have HO309 := n0_; have BK306 := n1_; have HB := n2_; clear n0_ n1_ n2_; (try clear hb); (try clear hb2); (try clear hk); (try clear hi)))
    go_meet
    case rel => exact ⟨_, (false), (by first | rfl | (simp; done) | (simp [*]; done)), H', ⟨by first | omega | exact Nat.le_refl _⟩, ⟨by (with_reducible repeat (first | refine kDn ?_ _ | refine kDr ?_ | refine kAl ?_ _)); exact BK306.out⟩, ⟨by repeat (first | (with_reducible first | exact HB.out | apply bAl | apply pBn | apply bD1 | refine bSt ?_ GE306.out) | exact HB.out)⟩⟩
  ·replace c15 := Bool.eq_false_iff.mpr c15
   subst c15
   have H1 : (windhoverlaw09_GeoSides.j0 k false) = some r := by rw [if_neg (show ¬ (false = true) by decide)] at H; exact H
   clear H
   have H := H1
   clear H1
   have H' := A0_.mk H
   clear H
   go_wp2_with (first | ((with_reducible refine gate_callee (f := 18) rfl ?_); refine goesL_ (some 24) rfl rfl Try.func18 (by kernel_rfl) rfl #[] rfl (by (try simp only [List.map_toArray, List.map_cons, List.map_nil]); first | done | rfl | (simp only [List.length_drop, List.length_take]; rfl)) ?_; (with_reducible refine (windhoverlaw09_awake.calls k  false _ A14.out).mono ?_); rintro e w22 ⟨rfl, hb⟩; refine ⟨_, rfl, ?_⟩; have n0_ := A0_.mk (KL.R_below (by (with_reducible repeat (first | apply KL.R_alloc | apply KL.R_drewN | apply KL.R_drew)); exact HO309.out) hb); have n1_ := A0_.mk (kBe (g := gb306) (o := .cells #[.int .i64 a1_0, .int .i64 a1_1] 23 (0, 0)) (by (with_reducible repeat (first | refine kDn ?_ _ | refine kDr ?_ | refine kAl ?_ _)); exact BK306.out) hb); have n2_ := A0_.mk (bSp (by repeat (first | (with_reducible first | exact HB.out | apply bAl | apply pBn | apply bD1 | refine bSt ?_ GE306.out) | exact HB.out)) hb); clear HO309; clear BK306; clear HB; have HO309 := n0_; have BK306 := n1_; have HB := n2_; clear n0_ n1_ n2_; (try clear hb); (try clear hb2); (try clear hk); (try clear hi)))
   go_meet
   case rel => exact ⟨_, (false), (by first | rfl | (simp; done) | (simp [*]; done)), H', ⟨by first | omega | exact Nat.le_refl _⟩, ⟨by (with_reducible repeat (first | refine kDn ?_ _ | refine kDr ?_ | refine kAl ?_ _)); exact BK306.out⟩, ⟨by repeat (first | (with_reducible first | exact HB.out | apply bAl | apply pBn | apply bD1 | refine bSt ?_ GE306.out) | exact HB.out)⟩⟩
 case rest =>
  clear HC6
  try clear c1
  try clear c2
  try clear p2
  try clear c6
  try clear c15
  try clear c16
  try clear c16b0
  try clear c16b1
  try clear c17
  try clear c17b0
  try clear c17b1
  try clear c18
  try clear c21
  try clear hcz12_0
  try clear hcz12_1
  try clear hcz9_0
  try clear hcz9_1
  try clear hfz12_0
  try clear hfz12_1
  try clear hfz9_0
  try clear hfz9_1
  obtain ⟨kq, x4_5, rfl, HA, HJ5, BK306, HB⟩ := hcut
  cases kq with
  | zero => exact absurd HA.out (by simp [windhoverlaw09_GeoSides.j0])
  | succ kj5 =>
   have H := HA.out
   clear HA
   simp only [windhoverlaw09_GeoSides.j0] at H
   obtain rfl := Option.some.inj H
   go_wp2
   go_ret
   exact ⟨by first | rfl | (simp [errW_none, errW_some] <;> rfl) | (simp [*, errW_none, errW_some] <;> rfl), by repeat (first | (with_reducible first | exact HB.out | apply bAl | apply pBn | apply bD1 | refine bSt ?_ GE306.out) | exact HB.out)⟩

end Go.Proofs.Ytannklfnfacpeaa.X
