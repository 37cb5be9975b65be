-- Written by a program of this repo (xp.py), over the print of the kit.
import Derived.Test.YtannklfnfacpeaaXx0
import Derived.Test.YtannklfnfacpeaaXx1
import Derived.Test.YtannklfnfacpeaaXx3
import Derived.Test.YtannklfnfacpeaaXHArea
import Derived.Test.YtannklfnfacpeaaXHSide
import Derived.Test.YtannklfnfacpeaaXHSimple
import Derived.Test.YtannklfnfacpeaaXHTouches
namespace Go.Proofs.Ytannklfnfacpeaa.X
open Go.RowKit Go.Proofs.YtannklfnfacpeaaW.PrintWords Go.Proofs.YtannklfnfacpeaaW.PrintLast Go.Proofs.YtannklfnfacpeaaW.PrintMore
attribute [local go_sem] max2_int min2_int max_two min_two max_three min_three max_four min_four   -- for this text's walks alone
set_option linter.unusedVariables false
set_option linter.unusedSimpArgs false

-- EXTERNAL: function 22 (geo_Simple): HSimple

-- EXTERNAL: function 23 (geo_Area2): HArea

-- EXTERNAL: function 27 (geo_Side): HSide

-- EXTERNAL: function 29 (geo_Touches): HTouches

/-! ### windhoverlaw09_at: function 32 -/
def windhoverlaw09_at.f (a0 : Int) (a1 : Int) : Option (Int × Int) := some (a0, a1)
set_option maxHeartbeats 8000000 in
set_option maxRecDepth 100000 in
theorem windhoverlaw09_at.calls (a0 : Int) (a1 : Int) (r1 : Int) (r2 : Int) (w : World) (h : windhoverlaw09_at.f a0 a1 = some (r1, r2)) :
    Calls Try.prog 32 #[.int .i64 a0, .int .i64 a1] w fun e w' => e = .returned (.agg #[.int .i64 r1, .int .i64 r2]) ∧ Below w.heap.size w w' := by
  have hu23 := Try.underlying23
  have HB := Aside0.mk (Below.refl w.heap.size w)
  have H : (some (a0, a1)) = some (r1, r2) := h
  clear h
  simp only [Option.some.injEq, Prod.mk.injEq] at H
  obtain ⟨rfl, rfl⟩ := H
  go_enter Try.func32, Try.ntmps32
  go_wp2_with (first | ((with_reducible refine gate_dst (N := 4) rfl ?_); refine box_event ?hg (N := 4) ?hd (cs := #[.int .i64 0, .int .i64 0]) (t := 23) ?hr ?_; (case hd => rfl); (case hg => rfl); (case hr => first | (go_simp; done) | (go_simp; rfl)); intro gb157 hg w3 hbox hb; have n0_ := Aside0.mk (below_step (by repeat (first | (with_reducible first | exact HB.out | apply below_alloc | apply pw_below_drewN | apply below_drew1) | exact HB.out)) hb); have n1_ := Aside0.mk (hbox); have n2_ := Aside0.mk ((by rw [hg]; exact (below_size (by repeat (first | (with_reducible first | exact HB.out | apply below_alloc | apply pw_below_drewN | apply below_drew1) | exact HB.out))) : w.heap.size ≤ gb157)); have n3_ := Aside0.mk ((by rw [hg]; exact (below_size (by repeat (first | (with_reducible first | exact HB.out | apply below_alloc | apply pw_below_drewN | apply below_drew1) | exact HB.out))) : w.heap.size ≤ gb157)); clear HB; have HB := n0_; have BK157 := n1_; have GW157 := n2_; have GE157 := n3_; clear n0_ n1_ n2_ n3_; clear hb hbox hg; have hcz4_0 : w3.cell? ⟨gb157, 0, none⟩ = some (.int .i64 0) := (blk_cell BK157.out 0).trans rfl; have hcz4_1 : w3.cell? ⟨gb157, 1, none⟩ = some (.int .i64 0) := (blk_cell BK157.out 1).trans rfl; have hfz4_0 := blk_frozen BK157.out 0; have hfz4_1 := blk_frozen BK157.out 1))
  refine bodyPost_ret (results_cell_row rfl _ _ gb157 23 #[.int .i64 a0, .int .i64 a1] (0, 0) _ rfl (by (with_reducible repeat (first | refine blk_drewN ?_ _ | refine blk_drew ?_ | refine blk_alloc ?_ _)); refine blk_put (cs := #[.int .i64 a0, .int .i64 0]) ?_ 1 _ rfl; (with_reducible repeat (first | refine blk_drewN ?_ _ | refine blk_drew ?_ | refine blk_alloc ?_ _)); refine blk_put (cs := #[.int .i64 0, .int .i64 0]) ?_ 0 _ rfl; (with_reducible repeat (first | refine blk_drewN ?_ _ | refine blk_drew ?_ | refine blk_alloc ?_ _)); exact BK157.out) Try.underlying23 rfl (by kernel_rfl)) rfl ?_
  exact ⟨by first | rfl | (simp [errW_none, errW_some] <;> rfl) | (simp [*, errW_none, errW_some] <;> rfl), by repeat (first | (with_reducible first | exact HB.out | apply below_alloc | apply pw_below_drewN | apply below_drew1 | refine below_set ?_ GE157.out) | exact HB.out)⟩

/-! ### windhoverlaw09_arrow: function 39 -/
def windhoverlaw09_arrow.f  : Option ((List (S23))) := (windhoverlaw09_at.f 0 0).bind fun bt158 => ((windhoverlaw09_at.f 10 5).bind fun bt160 => ((windhoverlaw09_at.f 0 10).bind fun bt162 => ((windhoverlaw09_at.f 3 5).bind fun bt164 => (some (([(⟨bt158.1, bt158.2⟩ : S23), (⟨bt160.1, bt160.2⟩ : S23), (⟨bt162.1, bt162.2⟩ : S23), (⟨bt164.1, bt164.2⟩ : S23)] : List (S23)))))))
set_option maxHeartbeats 8000000 in
set_option maxRecDepth 100000 in
theorem windhoverlaw09_arrow.calls  (r : List (S23)) (w : World) (h : windhoverlaw09_arrow.f  = some r) :
    Calls Try.prog 39 #[] w fun e w' => ∃ v0_ : Value, e = .returned (v0_) ∧ Kd.R k23 23 w' w.heap.size (fun _ => True) v0_ r ∧ Below w.heap.size w w' := by
  have HB := Aside0.mk (Below.refl w.heap.size w)
  have H : ((windhoverlaw09_at.f 0 0).bind fun bt158 => ((windhoverlaw09_at.f 10 5).bind fun bt160 => ((windhoverlaw09_at.f 0 10).bind fun bt162 => ((windhoverlaw09_at.f 3 5).bind fun bt164 => (some (([(⟨bt158.1, bt158.2⟩ : S23), (⟨bt160.1, bt160.2⟩ : S23), (⟨bt162.1, bt162.2⟩ : S23), (⟨bt164.1, bt164.2⟩ : S23)] : List (S23)))))))) = some r := h
  clear h
  replace H := Option.bind_eq_some_iff.mp H
  obtain ⟨⟨t158, t159⟩, A10, H⟩ := H
  replace H : ((windhoverlaw09_at.f 10 5).bind fun bt160 => ((windhoverlaw09_at.f 0 10).bind fun bt162 => ((windhoverlaw09_at.f 3 5).bind fun bt164 => (some (([(⟨t158, t159⟩ : S23), (⟨bt160.1, bt160.2⟩ : S23), (⟨bt162.1, bt162.2⟩ : S23), (⟨bt164.1, bt164.2⟩ : S23)] : List (S23))))))) = some r := H
  have A1 := Aside0.mk A10
  clear A10
  replace H := Option.bind_eq_some_iff.mp H
  obtain ⟨⟨t160, t161⟩, A20, H⟩ := H
  replace H : ((windhoverlaw09_at.f 0 10).bind fun bt162 => ((windhoverlaw09_at.f 3 5).bind fun bt164 => (some (([(⟨t158, t159⟩ : S23), (⟨t160, t161⟩ : S23), (⟨bt162.1, bt162.2⟩ : S23), (⟨bt164.1, bt164.2⟩ : S23)] : List (S23)))))) = some r := H
  have A2 := Aside0.mk A20
  clear A20
  replace H := Option.bind_eq_some_iff.mp H
  obtain ⟨⟨t162, t163⟩, A30, H⟩ := H
  replace H : ((windhoverlaw09_at.f 3 5).bind fun bt164 => (some (([(⟨t158, t159⟩ : S23), (⟨t160, t161⟩ : S23), (⟨t162, t163⟩ : S23), (⟨bt164.1, bt164.2⟩ : S23)] : List (S23))))) = some r := H
  have A3 := Aside0.mk A30
  clear A30
  replace H := Option.bind_eq_some_iff.mp H
  obtain ⟨⟨t164, t165⟩, A40, H⟩ := H
  replace H : (some (([(⟨t158, t159⟩ : S23), (⟨t160, t161⟩ : S23), (⟨t162, t163⟩ : S23), (⟨t164, t165⟩ : S23)] : List (S23)))) = some r := H
  have A4 := Aside0.mk A40
  clear A40
  obtain ⟨y166, hy166⟩ : ∃ y_ : List (S23), y_ = (([(⟨t158, t159⟩ : S23), (⟨t160, t161⟩ : S23), (⟨t162, t163⟩ : S23), (⟨t164, t165⟩ : S23)] : List (S23))) := ⟨_, rfl⟩
  replace H : (some y166) = some r := by first | (rw [hy166]; with_reducible exact H) | (have H2_ := (Option.bind_some _ _).symm.trans H; rw [hy166]; with_reducible exact H2_) | (have H2_ := (Option.bind_some _ _).symm.trans H; with_reducible exact H2_) | with_reducible exact H | (rw [hy166]; exact H) | exact H
  have Ny166 := Aside0.mk hy166
  clear hy166
  obtain rfl := Option.some.inj H
  go_enter Try.func39, Try.ntmps39
  go_wp2_with (first | ((with_reducible refine gate_callee (f := 32) rfl ?_); refine goesL_ (some 1) rfl rfl Try.func32 (by kernel_rfl) rfl #[.int .i64 0, .int .i64 0] rfl (by (try simp only [List.map_toArray, List.map_cons, List.map_nil]); first | done | rfl | (simp only [List.length_drop, List.length_take]; rfl)) ?_; (with_reducible refine (windhoverlaw09_at.calls 0 0 t158 t159 _ A1.out).mono ?_); rintro e w5 ⟨rfl, hb⟩; refine ⟨_, rfl, ?_⟩; have n0_ := Aside0.mk (below_step (by repeat (first | (with_reducible first | exact HB.out | apply below_alloc | apply pw_below_drewN | apply below_drew1) | exact HB.out)) hb); clear HB; have HB := n0_; clear n0_; (try clear hb); (try clear hb2); (try clear hk); (try clear hi)) | ((with_reducible refine gate_callee (f := 32) rfl ?_); refine goesL_ (some 2) rfl rfl Try.func32 (by kernel_rfl) rfl #[.int .i64 10, .int .i64 5] rfl (by (try simp only [List.map_toArray, List.map_cons, List.map_nil]); first | done | rfl | (simp only [List.length_drop, List.length_take]; rfl)) ?_; (with_reducible refine (windhoverlaw09_at.calls 10 5 t160 t161 _ A2.out).mono ?_); rintro e w6 ⟨rfl, hb⟩; refine ⟨_, rfl, ?_⟩; have n0_ := Aside0.mk (below_step (by repeat (first | (with_reducible first | exact HB.out | apply below_alloc | apply pw_below_drewN | apply below_drew1) | exact HB.out)) hb); clear HB; have HB := n0_; clear n0_; (try clear hb); (try clear hb2); (try clear hk); (try clear hi)) | ((with_reducible refine gate_callee (f := 32) rfl ?_); refine goesL_ (some 3) rfl rfl Try.func32 (by kernel_rfl) rfl #[.int .i64 0, .int .i64 10] rfl (by (try simp only [List.map_toArray, List.map_cons, List.map_nil]); first | done | rfl | (simp only [List.length_drop, List.length_take]; rfl)) ?_; (with_reducible refine (windhoverlaw09_at.calls 0 10 t162 t163 _ A3.out).mono ?_); rintro e w7 ⟨rfl, hb⟩; refine ⟨_, rfl, ?_⟩; have n0_ := Aside0.mk (below_step (by repeat (first | (with_reducible first | exact HB.out | apply below_alloc | apply pw_below_drewN | apply below_drew1) | exact HB.out)) hb); clear HB; have HB := n0_; clear n0_; (try clear hb); (try clear hb2); (try clear hk); (try clear hi)) | ((with_reducible refine gate_callee (f := 32) rfl ?_); refine goesL_ (some 4) rfl rfl Try.func32 (by kernel_rfl) rfl #[.int .i64 3, .int .i64 5] rfl (by (try simp only [List.map_toArray, List.map_cons, List.map_nil]); first | done | rfl | (simp only [List.length_drop, List.length_take]; rfl)) ?_; (with_reducible refine (windhoverlaw09_at.calls 3 5 t164 t165 _ A4.out).mono ?_); rintro e w8 ⟨rfl, hb⟩; refine ⟨_, rfl, ?_⟩; have n0_ := Aside0.mk (below_step (by repeat (first | (with_reducible first | exact HB.out | apply below_alloc | apply pw_below_drewN | apply below_drew1) | exact HB.out)) hb); clear HB; have HB := n0_; clear n0_; (try clear hb); (try clear hb2); (try clear hk); (try clear hi)) | ((with_reducible refine gate_dst (N := 5) rfl ?_); refine Kd.R_lit k23 _ 23 ?hg (N := 5) ?hd (xs := ([(⟨t158, t159⟩ : S23), (⟨t160, t161⟩ : S23), (⟨t162, t163⟩ : S23), (⟨t164, t165⟩ : S23)] : List (S23))) (inner := [.int .i64 t158, .int .i64 t159, .int .i64 t160, .int .i64 t161, .int .i64 t162, .int .i64 t163, .int .i64 t164, .int .i64 t165]) (ok := fun _ => True) (okp := fun _ => True) ?hr ?hp (fun _ hk => hk) trivial (Below.refl _ _) (Nat.le_refl _) (by simp) ?_; (case hd => rfl); (case hg => rfl); (case hr => first | (go_simp; done) | (go_simp; rfl)); (case hp => exact (Reps.c2 (show Kd.M k23 _ _ _ (⟨t158, t159⟩ : S23) [.int .i64 t158, .int .i64 t159] from (k23_mkM _ _ _ (⟨t158, t159⟩ : S23) )) (Reps.c2 (show Kd.M k23 _ _ _ (⟨t160, t161⟩ : S23) [.int .i64 t160, .int .i64 t161] from (k23_mkM _ _ _ (⟨t160, t161⟩ : S23) )) (Reps.c2 (show Kd.M k23 _ _ _ (⟨t162, t163⟩ : S23) [.int .i64 t162, .int .i64 t163] from (k23_mkM _ _ _ (⟨t162, t163⟩ : S23) )) (Reps.c2 (show Kd.M k23 _ _ _ (⟨t164, t165⟩ : S23) [.int .i64 t164, .int .i64 t165] from (k23_mkM _ _ _ (⟨t164, t165⟩ : S23) )) (Reps.none _ _)))))); intro v167 w9 ho10 hb hg_ hnew_; clear hg_ hnew_; (first | rw [← Ny166.out] at ho10 | (simp only [Int.reduceToNat] at ho10; rw [← Ny166.out] at ho10)); have n0_ := Aside0.mk (Kd.R_lower ho10 (below_size (by repeat (first | (with_reducible first | exact HB.out | apply below_alloc | apply pw_below_drewN | apply below_drew1) | exact HB.out)))); have n1_ := Aside0.mk (below_step (by repeat (first | (with_reducible first | exact HB.out | apply below_alloc | apply pw_below_drewN | apply below_drew1) | exact HB.out)) hb); clear HB; have HO168 := n0_; have HB := n1_; clear n0_ n1_; clear hb ho10))
  go_ret
  exact ⟨_, by first | rfl | (simp [errW_none, errW_some] <;> rfl) | (simp [*, errW_none, errW_some] <;> rfl), by (with_reducible repeat (first | apply Kd.R_alloc | apply Kd.R_drewN | apply Kd.R_drew)); exact HO168.out, by repeat (first | (with_reducible first | exact HB.out | apply below_alloc | apply pw_below_drewN | apply below_drew1) | exact HB.out)⟩

/-! ### windhoverlaw09_square: function 40 -/
def windhoverlaw09_square.f  : Option ((List (S23))) := (windhoverlaw09_at.f 0 0).bind fun bt169 => ((windhoverlaw09_at.f 10 0).bind fun bt171 => ((windhoverlaw09_at.f 10 10).bind fun bt173 => ((windhoverlaw09_at.f 0 10).bind fun bt175 => (some (([(⟨bt169.1, bt169.2⟩ : S23), (⟨bt171.1, bt171.2⟩ : S23), (⟨bt173.1, bt173.2⟩ : S23), (⟨bt175.1, bt175.2⟩ : S23)] : List (S23)))))))
set_option maxHeartbeats 8000000 in
set_option maxRecDepth 100000 in
theorem windhoverlaw09_square.calls  (r : List (S23)) (w : World) (h : windhoverlaw09_square.f  = some r) :
    Calls Try.prog 40 #[] w fun e w' => ∃ v0_ : Value, e = .returned (v0_) ∧ Kd.R k23 23 w' w.heap.size (fun _ => True) v0_ r ∧ Below w.heap.size w w' := by
  have HB := Aside0.mk (Below.refl w.heap.size w)
  have H : ((windhoverlaw09_at.f 0 0).bind fun bt169 => ((windhoverlaw09_at.f 10 0).bind fun bt171 => ((windhoverlaw09_at.f 10 10).bind fun bt173 => ((windhoverlaw09_at.f 0 10).bind fun bt175 => (some (([(⟨bt169.1, bt169.2⟩ : S23), (⟨bt171.1, bt171.2⟩ : S23), (⟨bt173.1, bt173.2⟩ : S23), (⟨bt175.1, bt175.2⟩ : S23)] : List (S23)))))))) = some r := h
  clear h
  replace H := Option.bind_eq_some_iff.mp H
  obtain ⟨⟨t169, t170⟩, A10, H⟩ := H
  replace H : ((windhoverlaw09_at.f 10 0).bind fun bt171 => ((windhoverlaw09_at.f 10 10).bind fun bt173 => ((windhoverlaw09_at.f 0 10).bind fun bt175 => (some (([(⟨t169, t170⟩ : S23), (⟨bt171.1, bt171.2⟩ : S23), (⟨bt173.1, bt173.2⟩ : S23), (⟨bt175.1, bt175.2⟩ : S23)] : List (S23))))))) = some r := H
  have A1 := Aside0.mk A10
  clear A10
  replace H := Option.bind_eq_some_iff.mp H
  obtain ⟨⟨t171, t172⟩, A20, H⟩ := H
  replace H : ((windhoverlaw09_at.f 10 10).bind fun bt173 => ((windhoverlaw09_at.f 0 10).bind fun bt175 => (some (([(⟨t169, t170⟩ : S23), (⟨t171, t172⟩ : S23), (⟨bt173.1, bt173.2⟩ : S23), (⟨bt175.1, bt175.2⟩ : S23)] : List (S23)))))) = some r := H
  have A2 := Aside0.mk A20
  clear A20
  replace H := Option.bind_eq_some_iff.mp H
  obtain ⟨⟨t173, t174⟩, A30, H⟩ := H
  replace H : ((windhoverlaw09_at.f 0 10).bind fun bt175 => (some (([(⟨t169, t170⟩ : S23), (⟨t171, t172⟩ : S23), (⟨t173, t174⟩ : S23), (⟨bt175.1, bt175.2⟩ : S23)] : List (S23))))) = some r := H
  have A3 := Aside0.mk A30
  clear A30
  replace H := Option.bind_eq_some_iff.mp H
  obtain ⟨⟨t175, t176⟩, A40, H⟩ := H
  replace H : (some (([(⟨t169, t170⟩ : S23), (⟨t171, t172⟩ : S23), (⟨t173, t174⟩ : S23), (⟨t175, t176⟩ : S23)] : List (S23)))) = some r := H
  have A4 := Aside0.mk A40
  clear A40
  obtain ⟨y177, hy177⟩ : ∃ y_ : List (S23), y_ = (([(⟨t169, t170⟩ : S23), (⟨t171, t172⟩ : S23), (⟨t173, t174⟩ : S23), (⟨t175, t176⟩ : S23)] : List (S23))) := ⟨_, rfl⟩
  replace H : (some y177) = some r := by first | (rw [hy177]; with_reducible exact H) | (have H2_ := (Option.bind_some _ _).symm.trans H; rw [hy177]; with_reducible exact H2_) | (have H2_ := (Option.bind_some _ _).symm.trans H; with_reducible exact H2_) | with_reducible exact H | (rw [hy177]; exact H) | exact H
  have Ny177 := Aside0.mk hy177
  clear hy177
  obtain rfl := Option.some.inj H
  go_enter Try.func40, Try.ntmps40
  go_wp2_with (first | ((with_reducible refine gate_callee (f := 32) rfl ?_); refine goesL_ (some 1) rfl rfl Try.func32 (by kernel_rfl) rfl #[.int .i64 0, .int .i64 0] rfl (by (try simp only [List.map_toArray, List.map_cons, List.map_nil]); first | done | rfl | (simp only [List.length_drop, List.length_take]; rfl)) ?_; (with_reducible refine (windhoverlaw09_at.calls 0 0 t169 t170 _ A1.out).mono ?_); rintro e w5 ⟨rfl, hb⟩; refine ⟨_, rfl, ?_⟩; have n0_ := Aside0.mk (below_step (by repeat (first | (with_reducible first | exact HB.out | apply below_alloc | apply pw_below_drewN | apply below_drew1) | exact HB.out)) hb); clear HB; have HB := n0_; clear n0_; (try clear hb); (try clear hb2); (try clear hk); (try clear hi)) | ((with_reducible refine gate_callee (f := 32) rfl ?_); refine goesL_ (some 2) rfl rfl Try.func32 (by kernel_rfl) rfl #[.int .i64 10, .int .i64 0] rfl (by (try simp only [List.map_toArray, List.map_cons, List.map_nil]); first | done | rfl | (simp only [List.length_drop, List.length_take]; rfl)) ?_; (with_reducible refine (windhoverlaw09_at.calls 10 0 t171 t172 _ A2.out).mono ?_); rintro e w6 ⟨rfl, hb⟩; refine ⟨_, rfl, ?_⟩; have n0_ := Aside0.mk (below_step (by repeat (first | (with_reducible first | exact HB.out | apply below_alloc | apply pw_below_drewN | apply below_drew1) | exact HB.out)) hb); clear HB; have HB := n0_; clear n0_; (try clear hb); (try clear hb2); (try clear hk); (try clear hi)) | ((with_reducible refine gate_callee (f := 32) rfl ?_); refine goesL_ (some 3) rfl rfl Try.func32 (by kernel_rfl) rfl #[.int .i64 10, .int .i64 10] rfl (by (try simp only [List.map_toArray, List.map_cons, List.map_nil]); first | done | rfl | (simp only [List.length_drop, List.length_take]; rfl)) ?_; (with_reducible refine (windhoverlaw09_at.calls 10 10 t173 t174 _ A3.out).mono ?_); rintro e w7 ⟨rfl, hb⟩; refine ⟨_, rfl, ?_⟩; have n0_ := Aside0.mk (below_step (by repeat (first | (with_reducible first | exact HB.out | apply below_alloc | apply pw_below_drewN | apply below_drew1) | exact HB.out)) hb); clear HB; have HB := n0_; clear n0_; (try clear hb); (try clear hb2); (try clear hk); (try clear hi)) | ((with_reducible refine gate_callee (f := 32) rfl ?_); refine goesL_ (some 4) rfl rfl Try.func32 (by kernel_rfl) rfl #[.int .i64 0, .int .i64 10] rfl (by (try simp only [List.map_toArray, List.map_cons, List.map_nil]); first | done | rfl | (simp only [List.length_drop, List.length_take]; rfl)) ?_; (with_reducible refine (windhoverlaw09_at.calls 0 10 t175 t176 _ A4.out).mono ?_); rintro e w8 ⟨rfl, hb⟩; refine ⟨_, rfl, ?_⟩; have n0_ := Aside0.mk (below_step (by repeat (first | (with_reducible first | exact HB.out | apply below_alloc | apply pw_below_drewN | apply below_drew1) | exact HB.out)) hb); clear HB; have HB := n0_; clear n0_; (try clear hb); (try clear hb2); (try clear hk); (try clear hi)) | ((with_reducible refine gate_dst (N := 5) rfl ?_); refine Kd.R_lit k23 _ 23 ?hg (N := 5) ?hd (xs := ([(⟨t169, t170⟩ : S23), (⟨t171, t172⟩ : S23), (⟨t173, t174⟩ : S23), (⟨t175, t176⟩ : S23)] : List (S23))) (inner := [.int .i64 t169, .int .i64 t170, .int .i64 t171, .int .i64 t172, .int .i64 t173, .int .i64 t174, .int .i64 t175, .int .i64 t176]) (ok := fun _ => True) (okp := fun _ => True) ?hr ?hp (fun _ hk => hk) trivial (Below.refl _ _) (Nat.le_refl _) (by simp) ?_; (case hd => rfl); (case hg => rfl); (case hr => first | (go_simp; done) | (go_simp; rfl)); (case hp => exact (Reps.c2 (show Kd.M k23 _ _ _ (⟨t169, t170⟩ : S23) [.int .i64 t169, .int .i64 t170] from (k23_mkM _ _ _ (⟨t169, t170⟩ : S23) )) (Reps.c2 (show Kd.M k23 _ _ _ (⟨t171, t172⟩ : S23) [.int .i64 t171, .int .i64 t172] from (k23_mkM _ _ _ (⟨t171, t172⟩ : S23) )) (Reps.c2 (show Kd.M k23 _ _ _ (⟨t173, t174⟩ : S23) [.int .i64 t173, .int .i64 t174] from (k23_mkM _ _ _ (⟨t173, t174⟩ : S23) )) (Reps.c2 (show Kd.M k23 _ _ _ (⟨t175, t176⟩ : S23) [.int .i64 t175, .int .i64 t176] from (k23_mkM _ _ _ (⟨t175, t176⟩ : S23) )) (Reps.none _ _)))))); intro v178 w9 ho10 hb hg_ hnew_; clear hg_ hnew_; (first | rw [← Ny177.out] at ho10 | (simp only [Int.reduceToNat] at ho10; rw [← Ny177.out] at ho10)); have n0_ := Aside0.mk (Kd.R_lower ho10 (below_size (by repeat (first | (with_reducible first | exact HB.out | apply below_alloc | apply pw_below_drewN | apply below_drew1) | exact HB.out)))); have n1_ := Aside0.mk (below_step (by repeat (first | (with_reducible first | exact HB.out | apply below_alloc | apply pw_below_drewN | apply below_drew1) | exact HB.out)) hb); clear HB; have HO179 := n0_; have HB := n1_; clear n0_ n1_; clear hb ho10))
  go_ret
  exact ⟨_, by first | rfl | (simp [errW_none, errW_some] <;> rfl) | (simp [*, errW_none, errW_some] <;> rfl), by (with_reducible repeat (first | apply Kd.R_alloc | apply Kd.R_drewN | apply Kd.R_drew)); exact HO179.out, by repeat (first | (with_reducible first | exact HB.out | apply below_alloc | apply pw_below_drewN | apply below_drew1) | exact HB.out)⟩

/-! ### windhoverlaw09_awake: function 18 -/
mutual
def windhoverlaw09_awake.j0 : Nat → Int → Bool → Int → Int → Bool → Int → Int → Bool → Option (Bool)
  | 0, _, _, _, _, _, _, _, _ => none
  | k + 1, x1, x3, x5, x7, x9, x11, x13, x15 => if x15 = true then (if x1 = 1 then (if x3 = true then (if x5 = 1 then (if x7 = (-1) then (if x9 = true then (if x11 = 200 then (if x13 = 25 then ((windhoverlaw09_square.f).bind fun t229 => (if 2 ≤ (t229.length : Int) then ((geo_Simple.f k (t229.take 2)).bind fun t236 => (windhoverlaw09_awake.j1 k (t236 == 90))) else (none))) else (windhoverlaw09_awake.j1 k false)) else (windhoverlaw09_awake.j1 k false)) else (windhoverlaw09_awake.j1 k false)) else (windhoverlaw09_awake.j1 k false)) else (windhoverlaw09_awake.j1 k false)) else (windhoverlaw09_awake.j1 k false)) else (windhoverlaw09_awake.j1 k false)) else (windhoverlaw09_awake.j1 k false)
def windhoverlaw09_awake.j1 : Nat → Bool → Option (Bool)
  | 0, _ => none
  | k + 1, x0 => some x0
end
def windhoverlaw09_awake.f (k : Nat)  : Option (Bool) := (windhoverlaw09_at.f 0 0).bind fun bt180 => ((windhoverlaw09_at.f 5 0).bind fun bt182 => ((windhoverlaw09_at.f 3 1).bind fun bt184 => ((geo_Orient.f bt180.1 bt180.2 bt182.1 bt182.2 bt184.1 bt184.2).bind fun bt186 => ((windhoverlaw09_at.f 0 0).bind fun bt188 => ((windhoverlaw09_at.f 4 4).bind fun bt190 => ((windhoverlaw09_at.f 0 4).bind fun bt192 => ((windhoverlaw09_at.f 4 0).bind fun bt194 => ((geo_Meet.f k bt188.1 bt188.2 bt190.1 bt190.2 bt192.1 bt192.2 bt194.1 bt194.2).bind fun bt196 => ((windhoverlaw09_arrow.f).bind fun t198 => ((windhoverlaw09_at.f 4 5).bind fun bt201 => ((geo_Side.f k t198 bt201.1 bt201.2).bind fun bt203 => ((windhoverlaw09_arrow.f).bind fun t205 => ((windhoverlaw09_at.f 2 5).bind fun bt208 => ((geo_Side.f k t205 bt208.1 bt208.2).bind fun bt210 => ((windhoverlaw09_at.f 0 0).bind fun bt212 => ((windhoverlaw09_at.f 10 10).bind fun bt214 => ((geo_Touches.f bt212.1 bt212.2 bt214.1 bt214.2 4 6 0 4).bind fun bt216 => ((windhoverlaw09_square.f).bind fun t218 => ((geo_Area2.f k t218).bind fun bt221 => ((windhoverlaw09_at.f 0 0).bind fun bt223 => ((windhoverlaw09_at.f 3 (-4)).bind fun bt225 => ((geo_Far.f bt223.1 bt223.2 bt225.1 bt225.2).bind fun bt227 => (if bt186.2 = 0 then (if bt196.2 = 0 then (if bt203.2 = 0 then (if bt210.2 = 0 then (if bt216.2 = 0 then (if bt221.2 = 0 then (windhoverlaw09_awake.j0 k bt186.1 bt196.1 bt203.1 bt210.1 bt216.1 bt221.1 bt227.1 (bt227.2 == 0)) else (windhoverlaw09_awake.j0 k bt186.1 bt196.1 bt203.1 bt210.1 bt216.1 bt221.1 bt227.1 false)) else (windhoverlaw09_awake.j0 k bt186.1 bt196.1 bt203.1 bt210.1 bt216.1 bt221.1 bt227.1 false)) else (windhoverlaw09_awake.j0 k bt186.1 bt196.1 bt203.1 bt210.1 bt216.1 bt221.1 bt227.1 false)) else (windhoverlaw09_awake.j0 k bt186.1 bt196.1 bt203.1 bt210.1 bt216.1 bt221.1 bt227.1 false)) else (windhoverlaw09_awake.j0 k bt186.1 bt196.1 bt203.1 bt210.1 bt216.1 bt221.1 bt227.1 false)) else (windhoverlaw09_awake.j0 k bt186.1 bt196.1 bt203.1 bt210.1 bt216.1 bt221.1 bt227.1 false))))))))))))))))))))))))
theorem windhoverlaw09_awake.mono_l : ∀ k, (∀ y0 y1 y2 y3 y4 y5 y6 y7, LeO (windhoverlaw09_awake.j0 k y0 y1 y2 y3 y4 y5 y6 y7) (windhoverlaw09_awake.j0 (k + 1) y0 y1 y2 y3 y4 y5 y6 y7)) ∧ (∀ y0, LeO (windhoverlaw09_awake.j1 k y0) (windhoverlaw09_awake.j1 (k + 1) y0))
  | 0 => ⟨fun _ _ _ _ _ _ _ _ r h => by simp [windhoverlaw09_awake.j0] at h, fun _ r h => by simp [windhoverlaw09_awake.j1] at h⟩
  | k + 1 => by
    obtain ⟨ih0, ih1⟩ := windhoverlaw09_awake.mono_l k
    refine ⟨?_, ?_⟩
    · intro y0 y1 y2 y3 y4 y5 y6 y7
      unfold windhoverlaw09_awake.j0
      repeat' first
      | (with_reducible exact ih0 _ _ _ _ _ _ _ _)
      | (with_reducible exact ih1 _)
      | (with_reducible exact geo_Area2.mono _ _)
      | (with_reducible exact geo_Meet.mono _ _ _ _ _ _ _ _ _)
      | (with_reducible exact geo_Side.mono _ _ _ _)
      | (with_reducible exact geo_Simple.mono _ _)
      | (with_reducible exact LeO.refl _)
      | (with_reducible exact LeO.none _)
      | (with_reducible refine LeO.ite ?_ ?_)
      | (with_reducible refine LeO.bind ?_ (fun _ => ?_))
      | exact ih0 _ _ _ _ _ _ _ _
      | exact ih1 _
      | exact geo_Area2.mono _ _
      | exact geo_Meet.mono _ _ _ _ _ _ _ _ _
      | exact geo_Side.mono _ _ _ _
      | exact geo_Simple.mono _ _
      | exact LeO.none _
      | refine LeO.ite ?_ ?_
      | refine LeO.bind ?_ (fun _ => ?_)
    · intro y0
      unfold windhoverlaw09_awake.j1
      repeat' first
      | (with_reducible exact ih0 _ _ _ _ _ _ _ _)
      | (with_reducible exact ih1 _)
      | (with_reducible exact geo_Area2.mono _ _)
      | (with_reducible exact geo_Meet.mono _ _ _ _ _ _ _ _ _)
      | (with_reducible exact geo_Side.mono _ _ _ _)
      | (with_reducible exact geo_Simple.mono _ _)
      | (with_reducible exact LeO.refl _)
      | (with_reducible exact LeO.none _)
      | (with_reducible refine LeO.ite ?_ ?_)
      | (with_reducible refine LeO.bind ?_ (fun _ => ?_))
      | exact ih0 _ _ _ _ _ _ _ _
      | exact ih1 _
      | exact geo_Area2.mono _ _
      | exact geo_Meet.mono _ _ _ _ _ _ _ _ _
      | exact geo_Side.mono _ _ _ _
      | exact geo_Simple.mono _ _
      | exact LeO.none _
      | refine LeO.ite ?_ ?_
      | refine LeO.bind ?_ (fun _ => ?_)
theorem windhoverlaw09_awake.mono : ∀ k, LeO (windhoverlaw09_awake.f k ) (windhoverlaw09_awake.f (k + 1) ) := by
  intro  k
  obtain ⟨ih0, ih1⟩ := windhoverlaw09_awake.mono_l k
  unfold windhoverlaw09_awake.f
  repeat' first
      | (with_reducible exact ih0 _ _ _ _ _ _ _ _)
      | (with_reducible exact ih1 _)
      | (with_reducible exact geo_Area2.mono _ _)
      | (with_reducible exact geo_Meet.mono _ _ _ _ _ _ _ _ _)
      | (with_reducible exact geo_Side.mono _ _ _ _)
      | (with_reducible exact geo_Simple.mono _ _)
      | (with_reducible exact LeO.refl _)
      | (with_reducible exact LeO.none _)
      | (with_reducible refine LeO.ite ?_ ?_)
      | (with_reducible refine LeO.bind ?_ (fun _ => ?_))
      | exact ih0 _ _ _ _ _ _ _ _
      | exact ih1 _
      | exact geo_Area2.mono _ _
      | exact geo_Meet.mono _ _ _ _ _ _ _ _ _
      | exact geo_Side.mono _ _ _ _
      | exact geo_Simple.mono _ _
      | exact LeO.none _
      | refine LeO.ite ?_ ?_
      | refine LeO.bind ?_ (fun _ => ?_)
set_option maxHeartbeats 8000000 in
set_option maxRecDepth 100000 in
theorem windhoverlaw09_awake.calls (k : Nat)  (r : Bool) (w : World) (h : windhoverlaw09_awake.f k  = some r) :
    Calls Try.prog 18 #[] w fun e w' => e = .returned (.bool r) ∧ Below w.heap.size w w' := by
  have hu44 := Try.underlying44
  have HB := Aside0.mk (Below.refl w.heap.size w)
  have H : ((windhoverlaw09_at.f 0 0).bind fun bt180 => ((windhoverlaw09_at.f 5 0).bind fun bt182 => ((windhoverlaw09_at.f 3 1).bind fun bt184 => ((geo_Orient.f bt180.1 bt180.2 bt182.1 bt182.2 bt184.1 bt184.2).bind fun bt186 => ((windhoverlaw09_at.f 0 0).bind fun bt188 => ((windhoverlaw09_at.f 4 4).bind fun bt190 => ((windhoverlaw09_at.f 0 4).bind fun bt192 => ((windhoverlaw09_at.f 4 0).bind fun bt194 => ((geo_Meet.f k bt188.1 bt188.2 bt190.1 bt190.2 bt192.1 bt192.2 bt194.1 bt194.2).bind fun bt196 => ((windhoverlaw09_arrow.f).bind fun t198 => ((windhoverlaw09_at.f 4 5).bind fun bt201 => ((geo_Side.f k t198 bt201.1 bt201.2).bind fun bt203 => ((windhoverlaw09_arrow.f).bind fun t205 => ((windhoverlaw09_at.f 2 5).bind fun bt208 => ((geo_Side.f k t205 bt208.1 bt208.2).bind fun bt210 => ((windhoverlaw09_at.f 0 0).bind fun bt212 => ((windhoverlaw09_at.f 10 10).bind fun bt214 => ((geo_Touches.f bt212.1 bt212.2 bt214.1 bt214.2 4 6 0 4).bind fun bt216 => ((windhoverlaw09_square.f).bind fun t218 => ((geo_Area2.f k t218).bind fun bt221 => ((windhoverlaw09_at.f 0 0).bind fun bt223 => ((windhoverlaw09_at.f 3 (-4)).bind fun bt225 => ((geo_Far.f bt223.1 bt223.2 bt225.1 bt225.2).bind fun bt227 => (if bt186.2 = 0 then (if bt196.2 = 0 then (if bt203.2 = 0 then (if bt210.2 = 0 then (if bt216.2 = 0 then (if bt221.2 = 0 then (windhoverlaw09_awake.j0 k bt186.1 bt196.1 bt203.1 bt210.1 bt216.1 bt221.1 bt227.1 (bt227.2 == 0)) else (windhoverlaw09_awake.j0 k bt186.1 bt196.1 bt203.1 bt210.1 bt216.1 bt221.1 bt227.1 false)) else (windhoverlaw09_awake.j0 k bt186.1 bt196.1 bt203.1 bt210.1 bt216.1 bt221.1 bt227.1 false)) else (windhoverlaw09_awake.j0 k bt186.1 bt196.1 bt203.1 bt210.1 bt216.1 bt221.1 bt227.1 false)) else (windhoverlaw09_awake.j0 k bt186.1 bt196.1 bt203.1 bt210.1 bt216.1 bt221.1 bt227.1 false)) else (windhoverlaw09_awake.j0 k bt186.1 bt196.1 bt203.1 bt210.1 bt216.1 bt221.1 bt227.1 false)) else (windhoverlaw09_awake.j0 k bt186.1 bt196.1 bt203.1 bt210.1 bt216.1 bt221.1 bt227.1 false))))))))))))))))))))))))) = some r := h
  clear h
  replace H := Option.bind_eq_some_iff.mp H
  obtain ⟨⟨t180, t181⟩, A10, H⟩ := H
  replace H : ((windhoverlaw09_at.f 5 0).bind fun bt182 => ((windhoverlaw09_at.f 3 1).bind fun bt184 => ((geo_Orient.f t180 t181 bt182.1 bt182.2 bt184.1 bt184.2).bind fun bt186 => ((windhoverlaw09_at.f 0 0).bind fun bt188 => ((windhoverlaw09_at.f 4 4).bind fun bt190 => ((windhoverlaw09_at.f 0 4).bind fun bt192 => ((windhoverlaw09_at.f 4 0).bind fun bt194 => ((geo_Meet.f k bt188.1 bt188.2 bt190.1 bt190.2 bt192.1 bt192.2 bt194.1 bt194.2).bind fun bt196 => ((windhoverlaw09_arrow.f).bind fun t198 => ((windhoverlaw09_at.f 4 5).bind fun bt201 => ((geo_Side.f k t198 bt201.1 bt201.2).bind fun bt203 => ((windhoverlaw09_arrow.f).bind fun t205 => ((windhoverlaw09_at.f 2 5).bind fun bt208 => ((geo_Side.f k t205 bt208.1 bt208.2).bind fun bt210 => ((windhoverlaw09_at.f 0 0).bind fun bt212 => ((windhoverlaw09_at.f 10 10).bind fun bt214 => ((geo_Touches.f bt212.1 bt212.2 bt214.1 bt214.2 4 6 0 4).bind fun bt216 => ((windhoverlaw09_square.f).bind fun t218 => ((geo_Area2.f k t218).bind fun bt221 => ((windhoverlaw09_at.f 0 0).bind fun bt223 => ((windhoverlaw09_at.f 3 (-4)).bind fun bt225 => ((geo_Far.f bt223.1 bt223.2 bt225.1 bt225.2).bind fun bt227 => (if bt186.2 = 0 then (if bt196.2 = 0 then (if bt203.2 = 0 then (if bt210.2 = 0 then (if bt216.2 = 0 then (if bt221.2 = 0 then (windhoverlaw09_awake.j0 k bt186.1 bt196.1 bt203.1 bt210.1 bt216.1 bt221.1 bt227.1 (bt227.2 == 0)) else (windhoverlaw09_awake.j0 k bt186.1 bt196.1 bt203.1 bt210.1 bt216.1 bt221.1 bt227.1 false)) else (windhoverlaw09_awake.j0 k bt186.1 bt196.1 bt203.1 bt210.1 bt216.1 bt221.1 bt227.1 false)) else (windhoverlaw09_awake.j0 k bt186.1 bt196.1 bt203.1 bt210.1 bt216.1 bt221.1 bt227.1 false)) else (windhoverlaw09_awake.j0 k bt186.1 bt196.1 bt203.1 bt210.1 bt216.1 bt221.1 bt227.1 false)) else (windhoverlaw09_awake.j0 k bt186.1 bt196.1 bt203.1 bt210.1 bt216.1 bt221.1 bt227.1 false)) else (windhoverlaw09_awake.j0 k bt186.1 bt196.1 bt203.1 bt210.1 bt216.1 bt221.1 bt227.1 false)))))))))))))))))))))))) = some r := H
  have A1 := Aside0.mk A10
  clear A10
  replace H := Option.bind_eq_some_iff.mp H
  obtain ⟨⟨t182, t183⟩, A20, H⟩ := H
  replace H : ((windhoverlaw09_at.f 3 1).bind fun bt184 => ((geo_Orient.f t180 t181 t182 t183 bt184.1 bt184.2).bind fun bt186 => ((windhoverlaw09_at.f 0 0).bind fun bt188 => ((windhoverlaw09_at.f 4 4).bind fun bt190 => ((windhoverlaw09_at.f 0 4).bind fun bt192 => ((windhoverlaw09_at.f 4 0).bind fun bt194 => ((geo_Meet.f k bt188.1 bt188.2 bt190.1 bt190.2 bt192.1 bt192.2 bt194.1 bt194.2).bind fun bt196 => ((windhoverlaw09_arrow.f).bind fun t198 => ((windhoverlaw09_at.f 4 5).bind fun bt201 => ((geo_Side.f k t198 bt201.1 bt201.2).bind fun bt203 => ((windhoverlaw09_arrow.f).bind fun t205 => ((windhoverlaw09_at.f 2 5).bind fun bt208 => ((geo_Side.f k t205 bt208.1 bt208.2).bind fun bt210 => ((windhoverlaw09_at.f 0 0).bind fun bt212 => ((windhoverlaw09_at.f 10 10).bind fun bt214 => ((geo_Touches.f bt212.1 bt212.2 bt214.1 bt214.2 4 6 0 4).bind fun bt216 => ((windhoverlaw09_square.f).bind fun t218 => ((geo_Area2.f k t218).bind fun bt221 => ((windhoverlaw09_at.f 0 0).bind fun bt223 => ((windhoverlaw09_at.f 3 (-4)).bind fun bt225 => ((geo_Far.f bt223.1 bt223.2 bt225.1 bt225.2).bind fun bt227 => (if bt186.2 = 0 then (if bt196.2 = 0 then (if bt203.2 = 0 then (if bt210.2 = 0 then (if bt216.2 = 0 then (if bt221.2 = 0 then (windhoverlaw09_awake.j0 k bt186.1 bt196.1 bt203.1 bt210.1 bt216.1 bt221.1 bt227.1 (bt227.2 == 0)) else (windhoverlaw09_awake.j0 k bt186.1 bt196.1 bt203.1 bt210.1 bt216.1 bt221.1 bt227.1 false)) else (windhoverlaw09_awake.j0 k bt186.1 bt196.1 bt203.1 bt210.1 bt216.1 bt221.1 bt227.1 false)) else (windhoverlaw09_awake.j0 k bt186.1 bt196.1 bt203.1 bt210.1 bt216.1 bt221.1 bt227.1 false)) else (windhoverlaw09_awake.j0 k bt186.1 bt196.1 bt203.1 bt210.1 bt216.1 bt221.1 bt227.1 false)) else (windhoverlaw09_awake.j0 k bt186.1 bt196.1 bt203.1 bt210.1 bt216.1 bt221.1 bt227.1 false)) else (windhoverlaw09_awake.j0 k bt186.1 bt196.1 bt203.1 bt210.1 bt216.1 bt221.1 bt227.1 false))))))))))))))))))))))) = some r := H
  have A2 := Aside0.mk A20
  clear A20
  replace H := Option.bind_eq_some_iff.mp H
  obtain ⟨⟨t184, t185⟩, A30, H⟩ := H
  replace H : ((geo_Orient.f t180 t181 t182 t183 t184 t185).bind fun bt186 => ((windhoverlaw09_at.f 0 0).bind fun bt188 => ((windhoverlaw09_at.f 4 4).bind fun bt190 => ((windhoverlaw09_at.f 0 4).bind fun bt192 => ((windhoverlaw09_at.f 4 0).bind fun bt194 => ((geo_Meet.f k bt188.1 bt188.2 bt190.1 bt190.2 bt192.1 bt192.2 bt194.1 bt194.2).bind fun bt196 => ((windhoverlaw09_arrow.f).bind fun t198 => ((windhoverlaw09_at.f 4 5).bind fun bt201 => ((geo_Side.f k t198 bt201.1 bt201.2).bind fun bt203 => ((windhoverlaw09_arrow.f).bind fun t205 => ((windhoverlaw09_at.f 2 5).bind fun bt208 => ((geo_Side.f k t205 bt208.1 bt208.2).bind fun bt210 => ((windhoverlaw09_at.f 0 0).bind fun bt212 => ((windhoverlaw09_at.f 10 10).bind fun bt214 => ((geo_Touches.f bt212.1 bt212.2 bt214.1 bt214.2 4 6 0 4).bind fun bt216 => ((windhoverlaw09_square.f).bind fun t218 => ((geo_Area2.f k t218).bind fun bt221 => ((windhoverlaw09_at.f 0 0).bind fun bt223 => ((windhoverlaw09_at.f 3 (-4)).bind fun bt225 => ((geo_Far.f bt223.1 bt223.2 bt225.1 bt225.2).bind fun bt227 => (if bt186.2 = 0 then (if bt196.2 = 0 then (if bt203.2 = 0 then (if bt210.2 = 0 then (if bt216.2 = 0 then (if bt221.2 = 0 then (windhoverlaw09_awake.j0 k bt186.1 bt196.1 bt203.1 bt210.1 bt216.1 bt221.1 bt227.1 (bt227.2 == 0)) else (windhoverlaw09_awake.j0 k bt186.1 bt196.1 bt203.1 bt210.1 bt216.1 bt221.1 bt227.1 false)) else (windhoverlaw09_awake.j0 k bt186.1 bt196.1 bt203.1 bt210.1 bt216.1 bt221.1 bt227.1 false)) else (windhoverlaw09_awake.j0 k bt186.1 bt196.1 bt203.1 bt210.1 bt216.1 bt221.1 bt227.1 false)) else (windhoverlaw09_awake.j0 k bt186.1 bt196.1 bt203.1 bt210.1 bt216.1 bt221.1 bt227.1 false)) else (windhoverlaw09_awake.j0 k bt186.1 bt196.1 bt203.1 bt210.1 bt216.1 bt221.1 bt227.1 false)) else (windhoverlaw09_awake.j0 k bt186.1 bt196.1 bt203.1 bt210.1 bt216.1 bt221.1 bt227.1 false)))))))))))))))))))))) = some r := H
  have A3 := Aside0.mk A30
  clear A30
  replace H := Option.bind_eq_some_iff.mp H
  obtain ⟨⟨t186, t187⟩, A40, H⟩ := H
  replace H : ((windhoverlaw09_at.f 0 0).bind fun bt188 => ((windhoverlaw09_at.f 4 4).bind fun bt190 => ((windhoverlaw09_at.f 0 4).bind fun bt192 => ((windhoverlaw09_at.f 4 0).bind fun bt194 => ((geo_Meet.f k bt188.1 bt188.2 bt190.1 bt190.2 bt192.1 bt192.2 bt194.1 bt194.2).bind fun bt196 => ((windhoverlaw09_arrow.f).bind fun t198 => ((windhoverlaw09_at.f 4 5).bind fun bt201 => ((geo_Side.f k t198 bt201.1 bt201.2).bind fun bt203 => ((windhoverlaw09_arrow.f).bind fun t205 => ((windhoverlaw09_at.f 2 5).bind fun bt208 => ((geo_Side.f k t205 bt208.1 bt208.2).bind fun bt210 => ((windhoverlaw09_at.f 0 0).bind fun bt212 => ((windhoverlaw09_at.f 10 10).bind fun bt214 => ((geo_Touches.f bt212.1 bt212.2 bt214.1 bt214.2 4 6 0 4).bind fun bt216 => ((windhoverlaw09_square.f).bind fun t218 => ((geo_Area2.f k t218).bind fun bt221 => ((windhoverlaw09_at.f 0 0).bind fun bt223 => ((windhoverlaw09_at.f 3 (-4)).bind fun bt225 => ((geo_Far.f bt223.1 bt223.2 bt225.1 bt225.2).bind fun bt227 => (if t187 = 0 then (if bt196.2 = 0 then (if bt203.2 = 0 then (if bt210.2 = 0 then (if bt216.2 = 0 then (if bt221.2 = 0 then (windhoverlaw09_awake.j0 k t186 bt196.1 bt203.1 bt210.1 bt216.1 bt221.1 bt227.1 (bt227.2 == 0)) else (windhoverlaw09_awake.j0 k t186 bt196.1 bt203.1 bt210.1 bt216.1 bt221.1 bt227.1 false)) else (windhoverlaw09_awake.j0 k t186 bt196.1 bt203.1 bt210.1 bt216.1 bt221.1 bt227.1 false)) else (windhoverlaw09_awake.j0 k t186 bt196.1 bt203.1 bt210.1 bt216.1 bt221.1 bt227.1 false)) else (windhoverlaw09_awake.j0 k t186 bt196.1 bt203.1 bt210.1 bt216.1 bt221.1 bt227.1 false)) else (windhoverlaw09_awake.j0 k t186 bt196.1 bt203.1 bt210.1 bt216.1 bt221.1 bt227.1 false)) else (windhoverlaw09_awake.j0 k t186 bt196.1 bt203.1 bt210.1 bt216.1 bt221.1 bt227.1 false))))))))))))))))))))) = some r := H
  have A4 := Aside0.mk A40
  clear A40
  replace H := Option.bind_eq_some_iff.mp H
  obtain ⟨⟨t188, t189⟩, A50, H⟩ := H
  replace H : ((windhoverlaw09_at.f 4 4).bind fun bt190 => ((windhoverlaw09_at.f 0 4).bind fun bt192 => ((windhoverlaw09_at.f 4 0).bind fun bt194 => ((geo_Meet.f k t188 t189 bt190.1 bt190.2 bt192.1 bt192.2 bt194.1 bt194.2).bind fun bt196 => ((windhoverlaw09_arrow.f).bind fun t198 => ((windhoverlaw09_at.f 4 5).bind fun bt201 => ((geo_Side.f k t198 bt201.1 bt201.2).bind fun bt203 => ((windhoverlaw09_arrow.f).bind fun t205 => ((windhoverlaw09_at.f 2 5).bind fun bt208 => ((geo_Side.f k t205 bt208.1 bt208.2).bind fun bt210 => ((windhoverlaw09_at.f 0 0).bind fun bt212 => ((windhoverlaw09_at.f 10 10).bind fun bt214 => ((geo_Touches.f bt212.1 bt212.2 bt214.1 bt214.2 4 6 0 4).bind fun bt216 => ((windhoverlaw09_square.f).bind fun t218 => ((geo_Area2.f k t218).bind fun bt221 => ((windhoverlaw09_at.f 0 0).bind fun bt223 => ((windhoverlaw09_at.f 3 (-4)).bind fun bt225 => ((geo_Far.f bt223.1 bt223.2 bt225.1 bt225.2).bind fun bt227 => (if t187 = 0 then (if bt196.2 = 0 then (if bt203.2 = 0 then (if bt210.2 = 0 then (if bt216.2 = 0 then (if bt221.2 = 0 then (windhoverlaw09_awake.j0 k t186 bt196.1 bt203.1 bt210.1 bt216.1 bt221.1 bt227.1 (bt227.2 == 0)) else (windhoverlaw09_awake.j0 k t186 bt196.1 bt203.1 bt210.1 bt216.1 bt221.1 bt227.1 false)) else (windhoverlaw09_awake.j0 k t186 bt196.1 bt203.1 bt210.1 bt216.1 bt221.1 bt227.1 false)) else (windhoverlaw09_awake.j0 k t186 bt196.1 bt203.1 bt210.1 bt216.1 bt221.1 bt227.1 false)) else (windhoverlaw09_awake.j0 k t186 bt196.1 bt203.1 bt210.1 bt216.1 bt221.1 bt227.1 false)) else (windhoverlaw09_awake.j0 k t186 bt196.1 bt203.1 bt210.1 bt216.1 bt221.1 bt227.1 false)) else (windhoverlaw09_awake.j0 k t186 bt196.1 bt203.1 bt210.1 bt216.1 bt221.1 bt227.1 false)))))))))))))))))))) = some r := H
  have A5 := Aside0.mk A50
  clear A50
  replace H := Option.bind_eq_some_iff.mp H
  obtain ⟨⟨t190, t191⟩, A60, H⟩ := H
  replace H : ((windhoverlaw09_at.f 0 4).bind fun bt192 => ((windhoverlaw09_at.f 4 0).bind fun bt194 => ((geo_Meet.f k t188 t189 t190 t191 bt192.1 bt192.2 bt194.1 bt194.2).bind fun bt196 => ((windhoverlaw09_arrow.f).bind fun t198 => ((windhoverlaw09_at.f 4 5).bind fun bt201 => ((geo_Side.f k t198 bt201.1 bt201.2).bind fun bt203 => ((windhoverlaw09_arrow.f).bind fun t205 => ((windhoverlaw09_at.f 2 5).bind fun bt208 => ((geo_Side.f k t205 bt208.1 bt208.2).bind fun bt210 => ((windhoverlaw09_at.f 0 0).bind fun bt212 => ((windhoverlaw09_at.f 10 10).bind fun bt214 => ((geo_Touches.f bt212.1 bt212.2 bt214.1 bt214.2 4 6 0 4).bind fun bt216 => ((windhoverlaw09_square.f).bind fun t218 => ((geo_Area2.f k t218).bind fun bt221 => ((windhoverlaw09_at.f 0 0).bind fun bt223 => ((windhoverlaw09_at.f 3 (-4)).bind fun bt225 => ((geo_Far.f bt223.1 bt223.2 bt225.1 bt225.2).bind fun bt227 => (if t187 = 0 then (if bt196.2 = 0 then (if bt203.2 = 0 then (if bt210.2 = 0 then (if bt216.2 = 0 then (if bt221.2 = 0 then (windhoverlaw09_awake.j0 k t186 bt196.1 bt203.1 bt210.1 bt216.1 bt221.1 bt227.1 (bt227.2 == 0)) else (windhoverlaw09_awake.j0 k t186 bt196.1 bt203.1 bt210.1 bt216.1 bt221.1 bt227.1 false)) else (windhoverlaw09_awake.j0 k t186 bt196.1 bt203.1 bt210.1 bt216.1 bt221.1 bt227.1 false)) else (windhoverlaw09_awake.j0 k t186 bt196.1 bt203.1 bt210.1 bt216.1 bt221.1 bt227.1 false)) else (windhoverlaw09_awake.j0 k t186 bt196.1 bt203.1 bt210.1 bt216.1 bt221.1 bt227.1 false)) else (windhoverlaw09_awake.j0 k t186 bt196.1 bt203.1 bt210.1 bt216.1 bt221.1 bt227.1 false)) else (windhoverlaw09_awake.j0 k t186 bt196.1 bt203.1 bt210.1 bt216.1 bt221.1 bt227.1 false))))))))))))))))))) = some r := H
  have A6 := Aside0.mk A60
  clear A60
  replace H := Option.bind_eq_some_iff.mp H
  obtain ⟨⟨t192, t193⟩, A70, H⟩ := H
  replace H : ((windhoverlaw09_at.f 4 0).bind fun bt194 => ((geo_Meet.f k t188 t189 t190 t191 t192 t193 bt194.1 bt194.2).bind fun bt196 => ((windhoverlaw09_arrow.f).bind fun t198 => ((windhoverlaw09_at.f 4 5).bind fun bt201 => ((geo_Side.f k t198 bt201.1 bt201.2).bind fun bt203 => ((windhoverlaw09_arrow.f).bind fun t205 => ((windhoverlaw09_at.f 2 5).bind fun bt208 => ((geo_Side.f k t205 bt208.1 bt208.2).bind fun bt210 => ((windhoverlaw09_at.f 0 0).bind fun bt212 => ((windhoverlaw09_at.f 10 10).bind fun bt214 => ((geo_Touches.f bt212.1 bt212.2 bt214.1 bt214.2 4 6 0 4).bind fun bt216 => ((windhoverlaw09_square.f).bind fun t218 => ((geo_Area2.f k t218).bind fun bt221 => ((windhoverlaw09_at.f 0 0).bind fun bt223 => ((windhoverlaw09_at.f 3 (-4)).bind fun bt225 => ((geo_Far.f bt223.1 bt223.2 bt225.1 bt225.2).bind fun bt227 => (if t187 = 0 then (if bt196.2 = 0 then (if bt203.2 = 0 then (if bt210.2 = 0 then (if bt216.2 = 0 then (if bt221.2 = 0 then (windhoverlaw09_awake.j0 k t186 bt196.1 bt203.1 bt210.1 bt216.1 bt221.1 bt227.1 (bt227.2 == 0)) else (windhoverlaw09_awake.j0 k t186 bt196.1 bt203.1 bt210.1 bt216.1 bt221.1 bt227.1 false)) else (windhoverlaw09_awake.j0 k t186 bt196.1 bt203.1 bt210.1 bt216.1 bt221.1 bt227.1 false)) else (windhoverlaw09_awake.j0 k t186 bt196.1 bt203.1 bt210.1 bt216.1 bt221.1 bt227.1 false)) else (windhoverlaw09_awake.j0 k t186 bt196.1 bt203.1 bt210.1 bt216.1 bt221.1 bt227.1 false)) else (windhoverlaw09_awake.j0 k t186 bt196.1 bt203.1 bt210.1 bt216.1 bt221.1 bt227.1 false)) else (windhoverlaw09_awake.j0 k t186 bt196.1 bt203.1 bt210.1 bt216.1 bt221.1 bt227.1 false)))))))))))))))))) = some r := H
  have A7 := Aside0.mk A70
  clear A70
  replace H := Option.bind_eq_some_iff.mp H
  obtain ⟨⟨t194, t195⟩, A80, H⟩ := H
  replace H : ((geo_Meet.f k t188 t189 t190 t191 t192 t193 t194 t195).bind fun bt196 => ((windhoverlaw09_arrow.f).bind fun t198 => ((windhoverlaw09_at.f 4 5).bind fun bt201 => ((geo_Side.f k t198 bt201.1 bt201.2).bind fun bt203 => ((windhoverlaw09_arrow.f).bind fun t205 => ((windhoverlaw09_at.f 2 5).bind fun bt208 => ((geo_Side.f k t205 bt208.1 bt208.2).bind fun bt210 => ((windhoverlaw09_at.f 0 0).bind fun bt212 => ((windhoverlaw09_at.f 10 10).bind fun bt214 => ((geo_Touches.f bt212.1 bt212.2 bt214.1 bt214.2 4 6 0 4).bind fun bt216 => ((windhoverlaw09_square.f).bind fun t218 => ((geo_Area2.f k t218).bind fun bt221 => ((windhoverlaw09_at.f 0 0).bind fun bt223 => ((windhoverlaw09_at.f 3 (-4)).bind fun bt225 => ((geo_Far.f bt223.1 bt223.2 bt225.1 bt225.2).bind fun bt227 => (if t187 = 0 then (if bt196.2 = 0 then (if bt203.2 = 0 then (if bt210.2 = 0 then (if bt216.2 = 0 then (if bt221.2 = 0 then (windhoverlaw09_awake.j0 k t186 bt196.1 bt203.1 bt210.1 bt216.1 bt221.1 bt227.1 (bt227.2 == 0)) else (windhoverlaw09_awake.j0 k t186 bt196.1 bt203.1 bt210.1 bt216.1 bt221.1 bt227.1 false)) else (windhoverlaw09_awake.j0 k t186 bt196.1 bt203.1 bt210.1 bt216.1 bt221.1 bt227.1 false)) else (windhoverlaw09_awake.j0 k t186 bt196.1 bt203.1 bt210.1 bt216.1 bt221.1 bt227.1 false)) else (windhoverlaw09_awake.j0 k t186 bt196.1 bt203.1 bt210.1 bt216.1 bt221.1 bt227.1 false)) else (windhoverlaw09_awake.j0 k t186 bt196.1 bt203.1 bt210.1 bt216.1 bt221.1 bt227.1 false)) else (windhoverlaw09_awake.j0 k t186 bt196.1 bt203.1 bt210.1 bt216.1 bt221.1 bt227.1 false))))))))))))))))) = some r := H
  have A8 := Aside0.mk A80
  clear A80
  replace H := Option.bind_eq_some_iff.mp H
  obtain ⟨⟨t196, t197⟩, A90, H⟩ := H
  replace H : ((windhoverlaw09_arrow.f).bind fun t198 => ((windhoverlaw09_at.f 4 5).bind fun bt201 => ((geo_Side.f k t198 bt201.1 bt201.2).bind fun bt203 => ((windhoverlaw09_arrow.f).bind fun t205 => ((windhoverlaw09_at.f 2 5).bind fun bt208 => ((geo_Side.f k t205 bt208.1 bt208.2).bind fun bt210 => ((windhoverlaw09_at.f 0 0).bind fun bt212 => ((windhoverlaw09_at.f 10 10).bind fun bt214 => ((geo_Touches.f bt212.1 bt212.2 bt214.1 bt214.2 4 6 0 4).bind fun bt216 => ((windhoverlaw09_square.f).bind fun t218 => ((geo_Area2.f k t218).bind fun bt221 => ((windhoverlaw09_at.f 0 0).bind fun bt223 => ((windhoverlaw09_at.f 3 (-4)).bind fun bt225 => ((geo_Far.f bt223.1 bt223.2 bt225.1 bt225.2).bind fun bt227 => (if t187 = 0 then (if t197 = 0 then (if bt203.2 = 0 then (if bt210.2 = 0 then (if bt216.2 = 0 then (if bt221.2 = 0 then (windhoverlaw09_awake.j0 k t186 t196 bt203.1 bt210.1 bt216.1 bt221.1 bt227.1 (bt227.2 == 0)) else (windhoverlaw09_awake.j0 k t186 t196 bt203.1 bt210.1 bt216.1 bt221.1 bt227.1 false)) else (windhoverlaw09_awake.j0 k t186 t196 bt203.1 bt210.1 bt216.1 bt221.1 bt227.1 false)) else (windhoverlaw09_awake.j0 k t186 t196 bt203.1 bt210.1 bt216.1 bt221.1 bt227.1 false)) else (windhoverlaw09_awake.j0 k t186 t196 bt203.1 bt210.1 bt216.1 bt221.1 bt227.1 false)) else (windhoverlaw09_awake.j0 k t186 t196 bt203.1 bt210.1 bt216.1 bt221.1 bt227.1 false)) else (windhoverlaw09_awake.j0 k t186 t196 bt203.1 bt210.1 bt216.1 bt221.1 bt227.1 false)))))))))))))))) = some r := H
  have A9 := Aside0.mk A90
  clear A90
  replace H := Option.bind_eq_some_iff.mp H
  obtain ⟨t198, A100, H⟩ := H
  replace H : ((windhoverlaw09_at.f 4 5).bind fun bt201 => ((geo_Side.f k t198 bt201.1 bt201.2).bind fun bt203 => ((windhoverlaw09_arrow.f).bind fun t205 => ((windhoverlaw09_at.f 2 5).bind fun bt208 => ((geo_Side.f k t205 bt208.1 bt208.2).bind fun bt210 => ((windhoverlaw09_at.f 0 0).bind fun bt212 => ((windhoverlaw09_at.f 10 10).bind fun bt214 => ((geo_Touches.f bt212.1 bt212.2 bt214.1 bt214.2 4 6 0 4).bind fun bt216 => ((windhoverlaw09_square.f).bind fun t218 => ((geo_Area2.f k t218).bind fun bt221 => ((windhoverlaw09_at.f 0 0).bind fun bt223 => ((windhoverlaw09_at.f 3 (-4)).bind fun bt225 => ((geo_Far.f bt223.1 bt223.2 bt225.1 bt225.2).bind fun bt227 => (if t187 = 0 then (if t197 = 0 then (if bt203.2 = 0 then (if bt210.2 = 0 then (if bt216.2 = 0 then (if bt221.2 = 0 then (windhoverlaw09_awake.j0 k t186 t196 bt203.1 bt210.1 bt216.1 bt221.1 bt227.1 (bt227.2 == 0)) else (windhoverlaw09_awake.j0 k t186 t196 bt203.1 bt210.1 bt216.1 bt221.1 bt227.1 false)) else (windhoverlaw09_awake.j0 k t186 t196 bt203.1 bt210.1 bt216.1 bt221.1 bt227.1 false)) else (windhoverlaw09_awake.j0 k t186 t196 bt203.1 bt210.1 bt216.1 bt221.1 bt227.1 false)) else (windhoverlaw09_awake.j0 k t186 t196 bt203.1 bt210.1 bt216.1 bt221.1 bt227.1 false)) else (windhoverlaw09_awake.j0 k t186 t196 bt203.1 bt210.1 bt216.1 bt221.1 bt227.1 false)) else (windhoverlaw09_awake.j0 k t186 t196 bt203.1 bt210.1 bt216.1 bt221.1 bt227.1 false))))))))))))))) = some r := H
  have A10 := Aside0.mk A100
  clear A100
  replace H := Option.bind_eq_some_iff.mp H
  obtain ⟨⟨t201, t202⟩, A110, H⟩ := H
  replace H : ((geo_Side.f k t198 t201 t202).bind fun bt203 => ((windhoverlaw09_arrow.f).bind fun t205 => ((windhoverlaw09_at.f 2 5).bind fun bt208 => ((geo_Side.f k t205 bt208.1 bt208.2).bind fun bt210 => ((windhoverlaw09_at.f 0 0).bind fun bt212 => ((windhoverlaw09_at.f 10 10).bind fun bt214 => ((geo_Touches.f bt212.1 bt212.2 bt214.1 bt214.2 4 6 0 4).bind fun bt216 => ((windhoverlaw09_square.f).bind fun t218 => ((geo_Area2.f k t218).bind fun bt221 => ((windhoverlaw09_at.f 0 0).bind fun bt223 => ((windhoverlaw09_at.f 3 (-4)).bind fun bt225 => ((geo_Far.f bt223.1 bt223.2 bt225.1 bt225.2).bind fun bt227 => (if t187 = 0 then (if t197 = 0 then (if bt203.2 = 0 then (if bt210.2 = 0 then (if bt216.2 = 0 then (if bt221.2 = 0 then (windhoverlaw09_awake.j0 k t186 t196 bt203.1 bt210.1 bt216.1 bt221.1 bt227.1 (bt227.2 == 0)) else (windhoverlaw09_awake.j0 k t186 t196 bt203.1 bt210.1 bt216.1 bt221.1 bt227.1 false)) else (windhoverlaw09_awake.j0 k t186 t196 bt203.1 bt210.1 bt216.1 bt221.1 bt227.1 false)) else (windhoverlaw09_awake.j0 k t186 t196 bt203.1 bt210.1 bt216.1 bt221.1 bt227.1 false)) else (windhoverlaw09_awake.j0 k t186 t196 bt203.1 bt210.1 bt216.1 bt221.1 bt227.1 false)) else (windhoverlaw09_awake.j0 k t186 t196 bt203.1 bt210.1 bt216.1 bt221.1 bt227.1 false)) else (windhoverlaw09_awake.j0 k t186 t196 bt203.1 bt210.1 bt216.1 bt221.1 bt227.1 false)))))))))))))) = some r := H
  have A11 := Aside0.mk A110
  clear A110
  replace H := Option.bind_eq_some_iff.mp H
  obtain ⟨⟨t203, t204⟩, A120, H⟩ := H
  replace H : ((windhoverlaw09_arrow.f).bind fun t205 => ((windhoverlaw09_at.f 2 5).bind fun bt208 => ((geo_Side.f k t205 bt208.1 bt208.2).bind fun bt210 => ((windhoverlaw09_at.f 0 0).bind fun bt212 => ((windhoverlaw09_at.f 10 10).bind fun bt214 => ((geo_Touches.f bt212.1 bt212.2 bt214.1 bt214.2 4 6 0 4).bind fun bt216 => ((windhoverlaw09_square.f).bind fun t218 => ((geo_Area2.f k t218).bind fun bt221 => ((windhoverlaw09_at.f 0 0).bind fun bt223 => ((windhoverlaw09_at.f 3 (-4)).bind fun bt225 => ((geo_Far.f bt223.1 bt223.2 bt225.1 bt225.2).bind fun bt227 => (if t187 = 0 then (if t197 = 0 then (if t204 = 0 then (if bt210.2 = 0 then (if bt216.2 = 0 then (if bt221.2 = 0 then (windhoverlaw09_awake.j0 k t186 t196 t203 bt210.1 bt216.1 bt221.1 bt227.1 (bt227.2 == 0)) else (windhoverlaw09_awake.j0 k t186 t196 t203 bt210.1 bt216.1 bt221.1 bt227.1 false)) else (windhoverlaw09_awake.j0 k t186 t196 t203 bt210.1 bt216.1 bt221.1 bt227.1 false)) else (windhoverlaw09_awake.j0 k t186 t196 t203 bt210.1 bt216.1 bt221.1 bt227.1 false)) else (windhoverlaw09_awake.j0 k t186 t196 t203 bt210.1 bt216.1 bt221.1 bt227.1 false)) else (windhoverlaw09_awake.j0 k t186 t196 t203 bt210.1 bt216.1 bt221.1 bt227.1 false)) else (windhoverlaw09_awake.j0 k t186 t196 t203 bt210.1 bt216.1 bt221.1 bt227.1 false))))))))))))) = some r := H
  have A12 := Aside0.mk A120
  clear A120
  replace H := Option.bind_eq_some_iff.mp H
  obtain ⟨t205, A130, H⟩ := H
  replace H : ((windhoverlaw09_at.f 2 5).bind fun bt208 => ((geo_Side.f k t205 bt208.1 bt208.2).bind fun bt210 => ((windhoverlaw09_at.f 0 0).bind fun bt212 => ((windhoverlaw09_at.f 10 10).bind fun bt214 => ((geo_Touches.f bt212.1 bt212.2 bt214.1 bt214.2 4 6 0 4).bind fun bt216 => ((windhoverlaw09_square.f).bind fun t218 => ((geo_Area2.f k t218).bind fun bt221 => ((windhoverlaw09_at.f 0 0).bind fun bt223 => ((windhoverlaw09_at.f 3 (-4)).bind fun bt225 => ((geo_Far.f bt223.1 bt223.2 bt225.1 bt225.2).bind fun bt227 => (if t187 = 0 then (if t197 = 0 then (if t204 = 0 then (if bt210.2 = 0 then (if bt216.2 = 0 then (if bt221.2 = 0 then (windhoverlaw09_awake.j0 k t186 t196 t203 bt210.1 bt216.1 bt221.1 bt227.1 (bt227.2 == 0)) else (windhoverlaw09_awake.j0 k t186 t196 t203 bt210.1 bt216.1 bt221.1 bt227.1 false)) else (windhoverlaw09_awake.j0 k t186 t196 t203 bt210.1 bt216.1 bt221.1 bt227.1 false)) else (windhoverlaw09_awake.j0 k t186 t196 t203 bt210.1 bt216.1 bt221.1 bt227.1 false)) else (windhoverlaw09_awake.j0 k t186 t196 t203 bt210.1 bt216.1 bt221.1 bt227.1 false)) else (windhoverlaw09_awake.j0 k t186 t196 t203 bt210.1 bt216.1 bt221.1 bt227.1 false)) else (windhoverlaw09_awake.j0 k t186 t196 t203 bt210.1 bt216.1 bt221.1 bt227.1 false)))))))))))) = some r := H
  have A13 := Aside0.mk A130
  clear A130
  replace H := Option.bind_eq_some_iff.mp H
  obtain ⟨⟨t208, t209⟩, A140, H⟩ := H
  replace H : ((geo_Side.f k t205 t208 t209).bind fun bt210 => ((windhoverlaw09_at.f 0 0).bind fun bt212 => ((windhoverlaw09_at.f 10 10).bind fun bt214 => ((geo_Touches.f bt212.1 bt212.2 bt214.1 bt214.2 4 6 0 4).bind fun bt216 => ((windhoverlaw09_square.f).bind fun t218 => ((geo_Area2.f k t218).bind fun bt221 => ((windhoverlaw09_at.f 0 0).bind fun bt223 => ((windhoverlaw09_at.f 3 (-4)).bind fun bt225 => ((geo_Far.f bt223.1 bt223.2 bt225.1 bt225.2).bind fun bt227 => (if t187 = 0 then (if t197 = 0 then (if t204 = 0 then (if bt210.2 = 0 then (if bt216.2 = 0 then (if bt221.2 = 0 then (windhoverlaw09_awake.j0 k t186 t196 t203 bt210.1 bt216.1 bt221.1 bt227.1 (bt227.2 == 0)) else (windhoverlaw09_awake.j0 k t186 t196 t203 bt210.1 bt216.1 bt221.1 bt227.1 false)) else (windhoverlaw09_awake.j0 k t186 t196 t203 bt210.1 bt216.1 bt221.1 bt227.1 false)) else (windhoverlaw09_awake.j0 k t186 t196 t203 bt210.1 bt216.1 bt221.1 bt227.1 false)) else (windhoverlaw09_awake.j0 k t186 t196 t203 bt210.1 bt216.1 bt221.1 bt227.1 false)) else (windhoverlaw09_awake.j0 k t186 t196 t203 bt210.1 bt216.1 bt221.1 bt227.1 false)) else (windhoverlaw09_awake.j0 k t186 t196 t203 bt210.1 bt216.1 bt221.1 bt227.1 false))))))))))) = some r := H
  have A14 := Aside0.mk A140
  clear A140
  replace H := Option.bind_eq_some_iff.mp H
  obtain ⟨⟨t210, t211⟩, A150, H⟩ := H
  replace H : ((windhoverlaw09_at.f 0 0).bind fun bt212 => ((windhoverlaw09_at.f 10 10).bind fun bt214 => ((geo_Touches.f bt212.1 bt212.2 bt214.1 bt214.2 4 6 0 4).bind fun bt216 => ((windhoverlaw09_square.f).bind fun t218 => ((geo_Area2.f k t218).bind fun bt221 => ((windhoverlaw09_at.f 0 0).bind fun bt223 => ((windhoverlaw09_at.f 3 (-4)).bind fun bt225 => ((geo_Far.f bt223.1 bt223.2 bt225.1 bt225.2).bind fun bt227 => (if t187 = 0 then (if t197 = 0 then (if t204 = 0 then (if t211 = 0 then (if bt216.2 = 0 then (if bt221.2 = 0 then (windhoverlaw09_awake.j0 k t186 t196 t203 t210 bt216.1 bt221.1 bt227.1 (bt227.2 == 0)) else (windhoverlaw09_awake.j0 k t186 t196 t203 t210 bt216.1 bt221.1 bt227.1 false)) else (windhoverlaw09_awake.j0 k t186 t196 t203 t210 bt216.1 bt221.1 bt227.1 false)) else (windhoverlaw09_awake.j0 k t186 t196 t203 t210 bt216.1 bt221.1 bt227.1 false)) else (windhoverlaw09_awake.j0 k t186 t196 t203 t210 bt216.1 bt221.1 bt227.1 false)) else (windhoverlaw09_awake.j0 k t186 t196 t203 t210 bt216.1 bt221.1 bt227.1 false)) else (windhoverlaw09_awake.j0 k t186 t196 t203 t210 bt216.1 bt221.1 bt227.1 false)))))))))) = some r := H
  have A15 := Aside0.mk A150
  clear A150
  replace H := Option.bind_eq_some_iff.mp H
  obtain ⟨⟨t212, t213⟩, A160, H⟩ := H
  replace H : ((windhoverlaw09_at.f 10 10).bind fun bt214 => ((geo_Touches.f t212 t213 bt214.1 bt214.2 4 6 0 4).bind fun bt216 => ((windhoverlaw09_square.f).bind fun t218 => ((geo_Area2.f k t218).bind fun bt221 => ((windhoverlaw09_at.f 0 0).bind fun bt223 => ((windhoverlaw09_at.f 3 (-4)).bind fun bt225 => ((geo_Far.f bt223.1 bt223.2 bt225.1 bt225.2).bind fun bt227 => (if t187 = 0 then (if t197 = 0 then (if t204 = 0 then (if t211 = 0 then (if bt216.2 = 0 then (if bt221.2 = 0 then (windhoverlaw09_awake.j0 k t186 t196 t203 t210 bt216.1 bt221.1 bt227.1 (bt227.2 == 0)) else (windhoverlaw09_awake.j0 k t186 t196 t203 t210 bt216.1 bt221.1 bt227.1 false)) else (windhoverlaw09_awake.j0 k t186 t196 t203 t210 bt216.1 bt221.1 bt227.1 false)) else (windhoverlaw09_awake.j0 k t186 t196 t203 t210 bt216.1 bt221.1 bt227.1 false)) else (windhoverlaw09_awake.j0 k t186 t196 t203 t210 bt216.1 bt221.1 bt227.1 false)) else (windhoverlaw09_awake.j0 k t186 t196 t203 t210 bt216.1 bt221.1 bt227.1 false)) else (windhoverlaw09_awake.j0 k t186 t196 t203 t210 bt216.1 bt221.1 bt227.1 false))))))))) = some r := H
  have A16 := Aside0.mk A160
  clear A160
  replace H := Option.bind_eq_some_iff.mp H
  obtain ⟨⟨t214, t215⟩, A170, H⟩ := H
  replace H : ((geo_Touches.f t212 t213 t214 t215 4 6 0 4).bind fun bt216 => ((windhoverlaw09_square.f).bind fun t218 => ((geo_Area2.f k t218).bind fun bt221 => ((windhoverlaw09_at.f 0 0).bind fun bt223 => ((windhoverlaw09_at.f 3 (-4)).bind fun bt225 => ((geo_Far.f bt223.1 bt223.2 bt225.1 bt225.2).bind fun bt227 => (if t187 = 0 then (if t197 = 0 then (if t204 = 0 then (if t211 = 0 then (if bt216.2 = 0 then (if bt221.2 = 0 then (windhoverlaw09_awake.j0 k t186 t196 t203 t210 bt216.1 bt221.1 bt227.1 (bt227.2 == 0)) else (windhoverlaw09_awake.j0 k t186 t196 t203 t210 bt216.1 bt221.1 bt227.1 false)) else (windhoverlaw09_awake.j0 k t186 t196 t203 t210 bt216.1 bt221.1 bt227.1 false)) else (windhoverlaw09_awake.j0 k t186 t196 t203 t210 bt216.1 bt221.1 bt227.1 false)) else (windhoverlaw09_awake.j0 k t186 t196 t203 t210 bt216.1 bt221.1 bt227.1 false)) else (windhoverlaw09_awake.j0 k t186 t196 t203 t210 bt216.1 bt221.1 bt227.1 false)) else (windhoverlaw09_awake.j0 k t186 t196 t203 t210 bt216.1 bt221.1 bt227.1 false)))))))) = some r := H
  have A17 := Aside0.mk A170
  clear A170
  replace H := Option.bind_eq_some_iff.mp H
  obtain ⟨⟨t216, t217⟩, A180, H⟩ := H
  replace H : ((windhoverlaw09_square.f).bind fun t218 => ((geo_Area2.f k t218).bind fun bt221 => ((windhoverlaw09_at.f 0 0).bind fun bt223 => ((windhoverlaw09_at.f 3 (-4)).bind fun bt225 => ((geo_Far.f bt223.1 bt223.2 bt225.1 bt225.2).bind fun bt227 => (if t187 = 0 then (if t197 = 0 then (if t204 = 0 then (if t211 = 0 then (if t217 = 0 then (if bt221.2 = 0 then (windhoverlaw09_awake.j0 k t186 t196 t203 t210 t216 bt221.1 bt227.1 (bt227.2 == 0)) else (windhoverlaw09_awake.j0 k t186 t196 t203 t210 t216 bt221.1 bt227.1 false)) else (windhoverlaw09_awake.j0 k t186 t196 t203 t210 t216 bt221.1 bt227.1 false)) else (windhoverlaw09_awake.j0 k t186 t196 t203 t210 t216 bt221.1 bt227.1 false)) else (windhoverlaw09_awake.j0 k t186 t196 t203 t210 t216 bt221.1 bt227.1 false)) else (windhoverlaw09_awake.j0 k t186 t196 t203 t210 t216 bt221.1 bt227.1 false)) else (windhoverlaw09_awake.j0 k t186 t196 t203 t210 t216 bt221.1 bt227.1 false))))))) = some r := H
  have A18 := Aside0.mk A180
  clear A180
  replace H := Option.bind_eq_some_iff.mp H
  obtain ⟨t218, A190, H⟩ := H
  replace H : ((geo_Area2.f k t218).bind fun bt221 => ((windhoverlaw09_at.f 0 0).bind fun bt223 => ((windhoverlaw09_at.f 3 (-4)).bind fun bt225 => ((geo_Far.f bt223.1 bt223.2 bt225.1 bt225.2).bind fun bt227 => (if t187 = 0 then (if t197 = 0 then (if t204 = 0 then (if t211 = 0 then (if t217 = 0 then (if bt221.2 = 0 then (windhoverlaw09_awake.j0 k t186 t196 t203 t210 t216 bt221.1 bt227.1 (bt227.2 == 0)) else (windhoverlaw09_awake.j0 k t186 t196 t203 t210 t216 bt221.1 bt227.1 false)) else (windhoverlaw09_awake.j0 k t186 t196 t203 t210 t216 bt221.1 bt227.1 false)) else (windhoverlaw09_awake.j0 k t186 t196 t203 t210 t216 bt221.1 bt227.1 false)) else (windhoverlaw09_awake.j0 k t186 t196 t203 t210 t216 bt221.1 bt227.1 false)) else (windhoverlaw09_awake.j0 k t186 t196 t203 t210 t216 bt221.1 bt227.1 false)) else (windhoverlaw09_awake.j0 k t186 t196 t203 t210 t216 bt221.1 bt227.1 false)))))) = some r := H
  have A19 := Aside0.mk A190
  clear A190
  replace H := Option.bind_eq_some_iff.mp H
  obtain ⟨⟨t221, t222⟩, A200, H⟩ := H
  replace H : ((windhoverlaw09_at.f 0 0).bind fun bt223 => ((windhoverlaw09_at.f 3 (-4)).bind fun bt225 => ((geo_Far.f bt223.1 bt223.2 bt225.1 bt225.2).bind fun bt227 => (if t187 = 0 then (if t197 = 0 then (if t204 = 0 then (if t211 = 0 then (if t217 = 0 then (if t222 = 0 then (windhoverlaw09_awake.j0 k t186 t196 t203 t210 t216 t221 bt227.1 (bt227.2 == 0)) else (windhoverlaw09_awake.j0 k t186 t196 t203 t210 t216 t221 bt227.1 false)) else (windhoverlaw09_awake.j0 k t186 t196 t203 t210 t216 t221 bt227.1 false)) else (windhoverlaw09_awake.j0 k t186 t196 t203 t210 t216 t221 bt227.1 false)) else (windhoverlaw09_awake.j0 k t186 t196 t203 t210 t216 t221 bt227.1 false)) else (windhoverlaw09_awake.j0 k t186 t196 t203 t210 t216 t221 bt227.1 false)) else (windhoverlaw09_awake.j0 k t186 t196 t203 t210 t216 t221 bt227.1 false))))) = some r := H
  have A20 := Aside0.mk A200
  clear A200
  replace H := Option.bind_eq_some_iff.mp H
  obtain ⟨⟨t223, t224⟩, A210, H⟩ := H
  replace H : ((windhoverlaw09_at.f 3 (-4)).bind fun bt225 => ((geo_Far.f t223 t224 bt225.1 bt225.2).bind fun bt227 => (if t187 = 0 then (if t197 = 0 then (if t204 = 0 then (if t211 = 0 then (if t217 = 0 then (if t222 = 0 then (windhoverlaw09_awake.j0 k t186 t196 t203 t210 t216 t221 bt227.1 (bt227.2 == 0)) else (windhoverlaw09_awake.j0 k t186 t196 t203 t210 t216 t221 bt227.1 false)) else (windhoverlaw09_awake.j0 k t186 t196 t203 t210 t216 t221 bt227.1 false)) else (windhoverlaw09_awake.j0 k t186 t196 t203 t210 t216 t221 bt227.1 false)) else (windhoverlaw09_awake.j0 k t186 t196 t203 t210 t216 t221 bt227.1 false)) else (windhoverlaw09_awake.j0 k t186 t196 t203 t210 t216 t221 bt227.1 false)) else (windhoverlaw09_awake.j0 k t186 t196 t203 t210 t216 t221 bt227.1 false)))) = some r := H
  have A21 := Aside0.mk A210
  clear A210
  replace H := Option.bind_eq_some_iff.mp H
  obtain ⟨⟨t225, t226⟩, A220, H⟩ := H
  replace H : ((geo_Far.f t223 t224 t225 t226).bind fun bt227 => (if t187 = 0 then (if t197 = 0 then (if t204 = 0 then (if t211 = 0 then (if t217 = 0 then (if t222 = 0 then (windhoverlaw09_awake.j0 k t186 t196 t203 t210 t216 t221 bt227.1 (bt227.2 == 0)) else (windhoverlaw09_awake.j0 k t186 t196 t203 t210 t216 t221 bt227.1 false)) else (windhoverlaw09_awake.j0 k t186 t196 t203 t210 t216 t221 bt227.1 false)) else (windhoverlaw09_awake.j0 k t186 t196 t203 t210 t216 t221 bt227.1 false)) else (windhoverlaw09_awake.j0 k t186 t196 t203 t210 t216 t221 bt227.1 false)) else (windhoverlaw09_awake.j0 k t186 t196 t203 t210 t216 t221 bt227.1 false)) else (windhoverlaw09_awake.j0 k t186 t196 t203 t210 t216 t221 bt227.1 false))) = some r := H
  have A22 := Aside0.mk A220
  clear A220
  replace H := Option.bind_eq_some_iff.mp H
  obtain ⟨⟨t227, t228⟩, A230, H⟩ := H
  replace H : (if t187 = 0 then (if t197 = 0 then (if t204 = 0 then (if t211 = 0 then (if t217 = 0 then (if t222 = 0 then (windhoverlaw09_awake.j0 k t186 t196 t203 t210 t216 t221 t227 (t228 == 0)) else (windhoverlaw09_awake.j0 k t186 t196 t203 t210 t216 t221 t227 false)) else (windhoverlaw09_awake.j0 k t186 t196 t203 t210 t216 t221 t227 false)) else (windhoverlaw09_awake.j0 k t186 t196 t203 t210 t216 t221 t227 false)) else (windhoverlaw09_awake.j0 k t186 t196 t203 t210 t216 t221 t227 false)) else (windhoverlaw09_awake.j0 k t186 t196 t203 t210 t216 t221 t227 false)) else (windhoverlaw09_awake.j0 k t186 t196 t203 t210 t216 t221 t227 false)) = some r := H
  have A23 := Aside0.mk A230
  clear A230
  have HC24 := Aside0.mk H
  clear H
  go_enter Try.func18, Try.ntmps18
  go_upto_region 8 with (first | ((with_reducible refine gate_callee (f := 32) rfl ?_); refine goesL_ (some 17) rfl rfl Try.func32 (by kernel_rfl) rfl #[.int .i64 0, .int .i64 0] rfl (by (try simp only [List.map_toArray, List.map_cons, List.map_nil]); first | done | rfl | (simp only [List.length_drop, List.length_take]; rfl)) ?_; (with_reducible refine (windhoverlaw09_at.calls 0 0 t180 t181 _ A1.out).mono ?_); rintro e w25 ⟨rfl, hb⟩; refine ⟨_, rfl, ?_⟩; have n0_ := Aside0.mk (below_step (by repeat (first | (with_reducible first | exact HB.out | apply below_alloc | apply pw_below_drewN | apply below_drew1) | exact HB.out)) hb); clear HB; have HB := n0_; clear n0_; (try clear hb); (try clear hb2); (try clear hk); (try clear hi)) | ((with_reducible refine gate_callee (f := 32) rfl ?_); refine goesL_ (some 18) rfl rfl Try.func32 (by kernel_rfl) rfl #[.int .i64 5, .int .i64 0] rfl (by (try simp only [List.map_toArray, List.map_cons, List.map_nil]); first | done | rfl | (simp only [List.length_drop, List.length_take]; rfl)) ?_; (with_reducible refine (windhoverlaw09_at.calls 5 0 t182 t183 _ A2.out).mono ?_); rintro e w26 ⟨rfl, hb⟩; refine ⟨_, rfl, ?_⟩; have n0_ := Aside0.mk (below_step (by repeat (first | (with_reducible first | exact HB.out | apply below_alloc | apply pw_below_drewN | apply below_drew1) | exact HB.out)) hb); clear HB; have HB := n0_; clear n0_; (try clear hb); (try clear hb2); (try clear hk); (try clear hi)) | ((with_reducible refine gate_callee (f := 32) rfl ?_); refine goesL_ (some 19) rfl rfl Try.func32 (by kernel_rfl) rfl #[.int .i64 3, .int .i64 1] rfl (by (try simp only [List.map_toArray, List.map_cons, List.map_nil]); first | done | rfl | (simp only [List.length_drop, List.length_take]; rfl)) ?_; (with_reducible refine (windhoverlaw09_at.calls 3 1 t184 t185 _ A3.out).mono ?_); rintro e w27 ⟨rfl, hb⟩; refine ⟨_, rfl, ?_⟩; have n0_ := Aside0.mk (below_step (by repeat (first | (with_reducible first | exact HB.out | apply below_alloc | apply pw_below_drewN | apply below_drew1) | exact HB.out)) hb); clear HB; have HB := n0_; clear n0_; (try clear hb); (try clear hb2); (try clear hk); (try clear hi)) | ((with_reducible refine gate_callee (f := 14) rfl ?_); refine goesL_ (some 20) rfl rfl Try.func14 (by kernel_rfl) rfl #[.agg #[.int .i64 t180, .int .i64 t181], .agg #[.int .i64 t182, .int .i64 t183], .agg #[.int .i64 t184, .int .i64 t185]] rfl (by (try simp only [List.map_toArray, List.map_cons, List.map_nil]); first | done | rfl | (simp only [List.length_drop, List.length_take]; rfl)) ?_; (with_reducible refine (geo_Orient.calls t180 t181 t182 t183 t184 t185 t186 t187 _ A4.out).mono ?_); rintro e w28 ⟨rfl, hb⟩; refine ⟨_, rfl, ?_⟩; have n0_ := Aside0.mk (below_step (by repeat (first | (with_reducible first | exact HB.out | apply below_alloc | apply pw_below_drewN | apply below_drew1) | exact HB.out)) hb); clear HB; have HB := n0_; clear n0_; (try clear hb); (try clear hb2); (try clear hk); (try clear hi)) | ((with_reducible refine gate_callee (f := 32) rfl ?_); refine goesL_ (some 24) rfl rfl Try.func32 (by kernel_rfl) rfl #[.int .i64 0, .int .i64 0] rfl (by (try simp only [List.map_toArray, List.map_cons, List.map_nil]); first | done | rfl | (simp only [List.length_drop, List.length_take]; rfl)) ?_; (with_reducible refine (windhoverlaw09_at.calls 0 0 t188 t189 _ A5.out).mono ?_); rintro e w29 ⟨rfl, hb⟩; refine ⟨_, rfl, ?_⟩; have n0_ := Aside0.mk (below_step (by repeat (first | (with_reducible first | exact HB.out | apply below_alloc | apply pw_below_drewN | apply below_drew1) | exact HB.out)) hb); clear HB; have HB := n0_; clear n0_; (try clear hb); (try clear hb2); (try clear hk); (try clear hi)) | ((with_reducible refine gate_callee (f := 32) rfl ?_); refine goesL_ (some 25) rfl rfl Try.func32 (by kernel_rfl) rfl #[.int .i64 4, .int .i64 4] rfl (by (try simp only [List.map_toArray, List.map_cons, List.map_nil]); first | done | rfl | (simp only [List.length_drop, List.length_take]; rfl)) ?_; (with_reducible refine (windhoverlaw09_at.calls 4 4 t190 t191 _ A6.out).mono ?_); rintro e w30 ⟨rfl, hb⟩; refine ⟨_, rfl, ?_⟩; have n0_ := Aside0.mk (below_step (by repeat (first | (with_reducible first | exact HB.out | apply below_alloc | apply pw_below_drewN | apply below_drew1) | exact HB.out)) hb); clear HB; have HB := n0_; clear n0_; (try clear hb); (try clear hb2); (try clear hk); (try clear hi)) | ((with_reducible refine gate_callee (f := 32) rfl ?_); refine goesL_ (some 26) rfl rfl Try.func32 (by kernel_rfl) rfl #[.int .i64 0, .int .i64 4] rfl (by (try simp only [List.map_toArray, List.map_cons, List.map_nil]); first | done | rfl | (simp only [List.length_drop, List.length_take]; rfl)) ?_; (with_reducible refine (windhoverlaw09_at.calls 0 4 t192 t193 _ A7.out).mono ?_); rintro e w31 ⟨rfl, hb⟩; refine ⟨_, rfl, ?_⟩; have n0_ := Aside0.mk (below_step (by repeat (first | (with_reducible first | exact HB.out | apply below_alloc | apply pw_below_drewN | apply below_drew1) | exact HB.out)) hb); clear HB; have HB := n0_; clear n0_; (try clear hb); (try clear hb2); (try clear hk); (try clear hi)) | ((with_reducible refine gate_callee (f := 32) rfl ?_); refine goesL_ (some 27) rfl rfl Try.func32 (by kernel_rfl) rfl #[.int .i64 4, .int .i64 0] rfl (by (try simp only [List.map_toArray, List.map_cons, List.map_nil]); first | done | rfl | (simp only [List.length_drop, List.length_take]; rfl)) ?_; (with_reducible refine (windhoverlaw09_at.calls 4 0 t194 t195 _ A8.out).mono ?_); rintro e w32 ⟨rfl, hb⟩; refine ⟨_, rfl, ?_⟩; have n0_ := Aside0.mk (below_step (by repeat (first | (with_reducible first | exact HB.out | apply below_alloc | apply pw_below_drewN | apply below_drew1) | exact HB.out)) hb); clear HB; have HB := n0_; clear n0_; (try clear hb); (try clear hb2); (try clear hk); (try clear hi)) | ((with_reducible refine gate_callee (f := 20) rfl ?_); refine goesL_ (some 28) rfl rfl Try.func20 (by kernel_rfl) rfl #[.agg #[.int .i64 t188, .int .i64 t189], .agg #[.int .i64 t190, .int .i64 t191], .agg #[.int .i64 t192, .int .i64 t193], .agg #[.int .i64 t194, .int .i64 t195]] rfl (by (try simp only [List.map_toArray, List.map_cons, List.map_nil]); first | done | rfl | (simp only [List.length_drop, List.length_take]; rfl)) ?_; (with_reducible refine (geo_Meet.calls k t188 t189 t190 t191 t192 t193 t194 t195 t196 t197 _ A9.out).mono ?_); rintro e w33 ⟨rfl, hb⟩; refine ⟨_, rfl, ?_⟩; have n0_ := Aside0.mk (below_step (by repeat (first | (with_reducible first | exact HB.out | apply below_alloc | apply pw_below_drewN | apply below_drew1) | exact HB.out)) hb); clear HB; have HB := n0_; clear n0_; (try clear hb); (try clear hb2); (try clear hk); (try clear hi)) | ((with_reducible refine gate_callee (f := 39) rfl ?_); refine goesL_ (some 32) rfl rfl Try.func39 (by kernel_rfl) rfl #[] rfl (by (try simp only [List.map_toArray, List.map_cons, List.map_nil]); first | done | rfl | (simp only [List.length_drop, List.length_take]; rfl)) ?_; (with_reducible refine (windhoverlaw09_arrow.calls  t198 _ A10.out).mono ?_); rintro e w34 ⟨v199, rfl, ho0, hb⟩; refine ⟨_, rfl, ?_⟩; have n0_ := Aside0.mk (Kd.R_lower ho0 (below_size (by repeat (first | (with_reducible first | exact HB.out | apply below_alloc | apply pw_below_drewN | apply below_drew1) | exact HB.out)))); have n1_ := Aside0.mk (below_step (by repeat (first | (with_reducible first | exact HB.out | apply below_alloc | apply pw_below_drewN | apply below_drew1) | exact HB.out)) hb); clear HB; have HO200 := n0_; have HB := n1_; clear n0_ n1_; (try clear hb); (try clear hb2); (try clear hk); (try clear hi); (try clear ho0)) | ((with_reducible refine gate_callee (f := 32) rfl ?_); refine goesL_ (some 33) rfl rfl Try.func32 (by kernel_rfl) rfl #[.int .i64 4, .int .i64 5] rfl (by (try simp only [List.map_toArray, List.map_cons, List.map_nil]); first | done | rfl | (simp only [List.length_drop, List.length_take]; rfl)) ?_; (with_reducible refine (windhoverlaw09_at.calls 4 5 t201 t202 _ A11.out).mono ?_); rintro e w35 ⟨rfl, hb⟩; refine ⟨_, rfl, ?_⟩; have n0_ := Aside0.mk (Kd.R_below (by (with_reducible repeat (first | apply Kd.R_alloc | apply Kd.R_drewN | apply Kd.R_drew)); exact HO200.out) hb); have n1_ := Aside0.mk (below_step (by repeat (first | (with_reducible first | exact HB.out | apply below_alloc | apply pw_below_drewN | apply below_drew1) | exact HB.out)) hb); clear HO200; clear HB; have HO200 := n0_; have HB := n1_; clear n0_ n1_; (try clear hb); (try clear hb2); (try clear hk); (try clear hi); obtain ⟨Ao36, co36, eo36⟩ := Kd.R_slice HO200.out; subst eo36) | ((with_reducible refine gate_callee (f := 27) rfl ?_); refine goesL_ (some 34) rfl rfl Try.func27 (by kernel_rfl) rfl #[.slice Ao36 t198.length co36, .agg #[.int .i64 t201, .int .i64 t202]] rfl (by (try simp only [List.map_toArray, List.map_cons, List.map_nil]); first | done | rfl | (simp only [List.length_drop, List.length_take]; rfl)) ?_; (with_reducible refine (geo_Side.calls k _ _ t198 t201 t202 t203 t204 _ ?side1 ?side2 A12.out).mono ?_); (case side1 => repeat (first | exact (Kd.R_reads' HO200.out).2.2 | (with_reducible refine Kd.C_alloc ?_ _) | (with_reducible refine Kd.C_drewN ?_ _) | (with_reducible refine Kd.C_drew ?_))); (case side2 => exact (Kd.R_reads' HO200.out).2.1); rintro e w37 ⟨rfl, hb⟩; refine ⟨_, rfl, ?_⟩; have n0_ := Aside0.mk (Kd.R_below (by (with_reducible repeat (first | apply Kd.R_alloc | apply Kd.R_drewN | apply Kd.R_drew)); exact HO200.out) hb); have n1_ := Aside0.mk (below_step (by repeat (first | (with_reducible first | exact HB.out | apply below_alloc | apply pw_below_drewN | apply below_drew1) | exact HB.out)) hb); clear HO200; clear HB; have HO200 := n0_; have HB := n1_; clear n0_ n1_; (try clear hb); (try clear hb2); (try clear hk); (try clear hi)) | ((with_reducible refine gate_callee (f := 39) rfl ?_); refine goesL_ (some 38) rfl rfl Try.func39 (by kernel_rfl) rfl #[] rfl (by (try simp only [List.map_toArray, List.map_cons, List.map_nil]); first | done | rfl | (simp only [List.length_drop, List.length_take]; rfl)) ?_; (with_reducible refine (windhoverlaw09_arrow.calls  t205 _ A13.out).mono ?_); rintro e w38 ⟨v206, rfl, ho0, hb⟩; refine ⟨_, rfl, ?_⟩; have n0_ := Aside0.mk (Kd.R_elder' (by (with_reducible repeat (first | apply Kd.R_alloc | apply Kd.R_drewN | apply Kd.R_drew)); exact HO200.out) (Kd.R_base ho0) hb); have n1_ := Aside0.mk (Kd.R_lower (Kd.R_new' ho0 (Kd.R_lt (by (with_reducible repeat (first | apply Kd.R_alloc | apply Kd.R_drewN | apply Kd.R_drew)); exact HO200.out))) (below_size (by repeat (first | (with_reducible first | exact HB.out | apply below_alloc | apply pw_below_drewN | apply below_drew1) | exact HB.out)))); have n2_ := Aside0.mk (below_step (by repeat (first | (with_reducible first | exact HB.out | apply below_alloc | apply pw_below_drewN | apply below_drew1) | exact HB.out)) hb); clear HO200; clear HB; have HO200 := n0_; have HO207 := n1_; have HB := n2_; clear n0_ n1_ n2_; (try clear hb); (try clear hb2); (try clear hk); (try clear hi); (try clear ho0)) | ((with_reducible refine gate_callee (f := 32) rfl ?_); refine goesL_ (some 39) rfl rfl Try.func32 (by kernel_rfl) rfl #[.int .i64 2, .int .i64 5] rfl (by (try simp only [List.map_toArray, List.map_cons, List.map_nil]); first | done | rfl | (simp only [List.length_drop, List.length_take]; rfl)) ?_; (with_reducible refine (windhoverlaw09_at.calls 2 5 t208 t209 _ A14.out).mono ?_); rintro e w39 ⟨rfl, hb⟩; refine ⟨_, rfl, ?_⟩; have n0_ := Aside0.mk (Kd.R_below (by (with_reducible repeat (first | apply Kd.R_alloc | apply Kd.R_drewN | apply Kd.R_drew)); exact HO200.out) hb); have n1_ := Aside0.mk (Kd.R_below (by (with_reducible repeat (first | apply Kd.R_alloc | apply Kd.R_drewN | apply Kd.R_drew)); exact HO207.out) hb); have n2_ := Aside0.mk (below_step (by repeat (first | (with_reducible first | exact HB.out | apply below_alloc | apply pw_below_drewN | apply below_drew1) | exact HB.out)) hb); clear HO200; clear HO207; clear HB; have HO200 := n0_; have HO207 := n1_; have HB := n2_; clear n0_ n1_ n2_; (try clear hb); (try clear hb2); (try clear hk); (try clear hi); obtain ⟨Ao40, co40, eo40⟩ := Kd.R_slice HO207.out; subst eo40) | ((with_reducible refine gate_callee (f := 27) rfl ?_); refine goesL_ (some 40) rfl rfl Try.func27 (by kernel_rfl) rfl #[.slice Ao40 t205.length co40, .agg #[.int .i64 t208, .int .i64 t209]] rfl (by (try simp only [List.map_toArray, List.map_cons, List.map_nil]); first | done | rfl | (simp only [List.length_drop, List.length_take]; rfl)) ?_; (with_reducible refine (geo_Side.calls k _ _ t205 t208 t209 t210 t211 _ ?side1 ?side2 A15.out).mono ?_); (case side1 => repeat (first | exact (Kd.R_reads' HO207.out).2.2 | (with_reducible refine Kd.C_alloc ?_ _) | (with_reducible refine Kd.C_drewN ?_ _) | (with_reducible refine Kd.C_drew ?_))); (case side2 => exact (Kd.R_reads' HO207.out).2.1); rintro e w41 ⟨rfl, hb⟩; refine ⟨_, rfl, ?_⟩; have n0_ := Aside0.mk (Kd.R_below (by (with_reducible repeat (first | apply Kd.R_alloc | apply Kd.R_drewN | apply Kd.R_drew)); exact HO200.out) hb); have n1_ := Aside0.mk (Kd.R_below (by (with_reducible repeat (first | apply Kd.R_alloc | apply Kd.R_drewN | apply Kd.R_drew)); exact HO207.out) hb); have n2_ := Aside0.mk (below_step (by repeat (first | (with_reducible first | exact HB.out | apply below_alloc | apply pw_below_drewN | apply below_drew1) | exact HB.out)) hb); clear HO200; clear HO207; clear HB; have HO200 := n0_; have HO207 := n1_; have HB := n2_; clear n0_ n1_ n2_; (try clear hb); (try clear hb2); (try clear hk); (try clear hi)) | ((with_reducible refine gate_callee (f := 32) rfl ?_); refine goesL_ (some 44) rfl rfl Try.func32 (by kernel_rfl) rfl #[.int .i64 0, .int .i64 0] rfl (by (try simp only [List.map_toArray, List.map_cons, List.map_nil]); first | done | rfl | (simp only [List.length_drop, List.length_take]; rfl)) ?_; (with_reducible refine (windhoverlaw09_at.calls 0 0 t212 t213 _ A16.out).mono ?_); rintro e w42 ⟨rfl, hb⟩; refine ⟨_, rfl, ?_⟩; have n0_ := Aside0.mk (Kd.R_below (by (with_reducible repeat (first | apply Kd.R_alloc | apply Kd.R_drewN | apply Kd.R_drew)); exact HO200.out) hb); have n1_ := Aside0.mk (Kd.R_below (by (with_reducible repeat (first | apply Kd.R_alloc | apply Kd.R_drewN | apply Kd.R_drew)); exact HO207.out) hb); have n2_ := Aside0.mk (below_step (by repeat (first | (with_reducible first | exact HB.out | apply below_alloc | apply pw_below_drewN | apply below_drew1) | exact HB.out)) hb); clear HO200; clear HO207; clear HB; have HO200 := n0_; have HO207 := n1_; have HB := n2_; clear n0_ n1_ n2_; (try clear hb); (try clear hb2); (try clear hk); (try clear hi)) | ((with_reducible refine gate_callee (f := 32) rfl ?_); refine goesL_ (some 45) rfl rfl Try.func32 (by kernel_rfl) rfl #[.int .i64 10, .int .i64 10] rfl (by (try simp only [List.map_toArray, List.map_cons, List.map_nil]); first | done | rfl | (simp only [List.length_drop, List.length_take]; rfl)) ?_; (with_reducible refine (windhoverlaw09_at.calls 10 10 t214 t215 _ A17.out).mono ?_); rintro e w43 ⟨rfl, hb⟩; refine ⟨_, rfl, ?_⟩; have n0_ := Aside0.mk (Kd.R_below (by (with_reducible repeat (first | apply Kd.R_alloc | apply Kd.R_drewN | apply Kd.R_drew)); exact HO200.out) hb); have n1_ := Aside0.mk (Kd.R_below (by (with_reducible repeat (first | apply Kd.R_alloc | apply Kd.R_drewN | apply Kd.R_drew)); exact HO207.out) hb); have n2_ := Aside0.mk (below_step (by repeat (first | (with_reducible first | exact HB.out | apply below_alloc | apply pw_below_drewN | apply below_drew1) | exact HB.out)) hb); clear HO200; clear HO207; clear HB; have HO200 := n0_; have HO207 := n1_; have HB := n2_; clear n0_ n1_ n2_; (try clear hb); (try clear hb2); (try clear hk); (try clear hi)) | ((with_reducible refine gate_callee (f := 29) rfl ?_); refine goesL_ (some 48) rfl rfl Try.func29 (by kernel_rfl) rfl #[.agg #[.int .i64 t212, .int .i64 t213], .agg #[.int .i64 t214, .int .i64 t215], .agg #[.int .i64 4, .int .i64 6], .agg #[.int .i64 0, .int .i64 4]] rfl (by (try simp only [List.map_toArray, List.map_cons, List.map_nil]); first | done | rfl | (simp only [List.length_drop, List.length_take]; rfl)) ?_; (with_reducible refine (geo_Touches.calls t212 t213 t214 t215 4 6 0 4 t216 t217 _ A18.out).mono ?_); rintro e w44 ⟨rfl, hb⟩; refine ⟨_, rfl, ?_⟩; have n0_ := Aside0.mk (Kd.R_below (by (with_reducible repeat (first | apply Kd.R_alloc | apply Kd.R_drewN | apply Kd.R_drew)); exact HO200.out) hb); have n1_ := Aside0.mk (Kd.R_below (by (with_reducible repeat (first | apply Kd.R_alloc | apply Kd.R_drewN | apply Kd.R_drew)); exact HO207.out) hb); have n2_ := Aside0.mk (below_step (by repeat (first | (with_reducible first | exact HB.out | apply below_alloc | apply pw_below_drewN | apply below_drew1) | exact HB.out)) hb); clear HO200; clear HO207; clear HB; have HO200 := n0_; have HO207 := n1_; have HB := n2_; clear n0_ n1_ n2_; (try clear hb); (try clear hb2); (try clear hk); (try clear hi)) | ((with_reducible refine gate_callee (f := 40) rfl ?_); refine goesL_ (some 52) rfl rfl Try.func40 (by kernel_rfl) rfl #[] rfl (by (try simp only [List.map_toArray, List.map_cons, List.map_nil]); first | done | rfl | (simp only [List.length_drop, List.length_take]; rfl)) ?_; (with_reducible refine (windhoverlaw09_square.calls  t218 _ A19.out).mono ?_); rintro e w45 ⟨v219, rfl, ho0, hb⟩; refine ⟨_, rfl, ?_⟩; have n0_ := Aside0.mk (Kd.R_elder' (by (with_reducible repeat (first | apply Kd.R_alloc | apply Kd.R_drewN | apply Kd.R_drew)); exact HO200.out) (Kd.R_base ho0) hb); have n1_ := Aside0.mk (Kd.R_elder' (by (with_reducible repeat (first | apply Kd.R_alloc | apply Kd.R_drewN | apply Kd.R_drew)); exact HO207.out) (Kd.R_base ho0) hb); have n2_ := Aside0.mk (Kd.R_lower (Kd.R_new' (Kd.R_new' ho0 (Kd.R_lt (by (with_reducible repeat (first | apply Kd.R_alloc | apply Kd.R_drewN | apply Kd.R_drew)); exact HO200.out))) (Kd.R_lt (by (with_reducible repeat (first | apply Kd.R_alloc | apply Kd.R_drewN | apply Kd.R_drew)); exact HO207.out))) (below_size (by repeat (first | (with_reducible first | exact HB.out | apply below_alloc | apply pw_below_drewN | apply below_drew1) | exact HB.out)))); have n3_ := Aside0.mk (below_step (by repeat (first | (with_reducible first | exact HB.out | apply below_alloc | apply pw_below_drewN | apply below_drew1) | exact HB.out)) hb); clear HO200; clear HO207; clear HB; have HO200 := n0_; have HO207 := n1_; have HO220 := n2_; have HB := n3_; clear n0_ n1_ n2_ n3_; (try clear hb); (try clear hb2); (try clear hk); (try clear hi); (try clear ho0); obtain ⟨Ao46, co46, eo46⟩ := Kd.R_slice HO220.out; subst eo46) | ((with_reducible refine gate_callee (f := 23) rfl ?_); refine goesL_ (some 53) rfl rfl Try.func23 (by kernel_rfl) rfl #[.slice Ao46 t218.length co46] rfl (by (try simp only [List.map_toArray, List.map_cons, List.map_nil]); first | done | rfl | (simp only [List.length_drop, List.length_take]; rfl)) ?_; (with_reducible refine (geo_Area2.calls k _ _ t218 t221 t222 _ ?side1 ?side2 A20.out).mono ?_); (case side1 => repeat (first | exact (Kd.R_reads' HO220.out).2.2 | (with_reducible refine Kd.C_alloc ?_ _) | (with_reducible refine Kd.C_drewN ?_ _) | (with_reducible refine Kd.C_drew ?_))); (case side2 => exact (Kd.R_reads' HO220.out).2.1); rintro e w47 ⟨rfl, hb⟩; refine ⟨_, rfl, ?_⟩; have n0_ := Aside0.mk (Kd.R_below (by (with_reducible repeat (first | apply Kd.R_alloc | apply Kd.R_drewN | apply Kd.R_drew)); exact HO200.out) hb); have n1_ := Aside0.mk (Kd.R_below (by (with_reducible repeat (first | apply Kd.R_alloc | apply Kd.R_drewN | apply Kd.R_drew)); exact HO207.out) hb); have n2_ := Aside0.mk (Kd.R_below (by (with_reducible repeat (first | apply Kd.R_alloc | apply Kd.R_drewN | apply Kd.R_drew)); exact HO220.out) hb); have n3_ := Aside0.mk (below_step (by repeat (first | (with_reducible first | exact HB.out | apply below_alloc | apply pw_below_drewN | apply below_drew1) | exact HB.out)) hb); clear HO200; clear HO207; clear HO220; clear HB; have HO200 := n0_; have HO207 := n1_; have HO220 := n2_; have HB := n3_; clear n0_ n1_ n2_ n3_; (try clear hb); (try clear hb2); (try clear hk); (try clear hi)) | ((with_reducible refine gate_callee (f := 32) rfl ?_); refine goesL_ (some 57) rfl rfl Try.func32 (by kernel_rfl) rfl #[.int .i64 0, .int .i64 0] rfl (by (try simp only [List.map_toArray, List.map_cons, List.map_nil]); first | done | rfl | (simp only [List.length_drop, List.length_take]; rfl)) ?_; (with_reducible refine (windhoverlaw09_at.calls 0 0 t223 t224 _ A21.out).mono ?_); rintro e w48 ⟨rfl, hb⟩; refine ⟨_, rfl, ?_⟩; have n0_ := Aside0.mk (Kd.R_below (by (with_reducible repeat (first | apply Kd.R_alloc | apply Kd.R_drewN | apply Kd.R_drew)); exact HO200.out) hb); have n1_ := Aside0.mk (Kd.R_below (by (with_reducible repeat (first | apply Kd.R_alloc | apply Kd.R_drewN | apply Kd.R_drew)); exact HO207.out) hb); have n2_ := Aside0.mk (Kd.R_below (by (with_reducible repeat (first | apply Kd.R_alloc | apply Kd.R_drewN | apply Kd.R_drew)); exact HO220.out) hb); have n3_ := Aside0.mk (below_step (by repeat (first | (with_reducible first | exact HB.out | apply below_alloc | apply pw_below_drewN | apply below_drew1) | exact HB.out)) hb); clear HO200; clear HO207; clear HO220; clear HB; have HO200 := n0_; have HO207 := n1_; have HO220 := n2_; have HB := n3_; clear n0_ n1_ n2_ n3_; (try clear hb); (try clear hb2); (try clear hk); (try clear hi)) | ((with_reducible refine gate_callee (f := 32) rfl ?_); refine goesL_ (some 58) rfl rfl Try.func32 (by kernel_rfl) rfl #[.int .i64 3, .int .i64 (-4)] rfl (by (try simp only [List.map_toArray, List.map_cons, List.map_nil]); first | done | rfl | (simp only [List.length_drop, List.length_take]; rfl)) ?_; (with_reducible refine (windhoverlaw09_at.calls 3 (-4) t225 t226 _ A22.out).mono ?_); rintro e w49 ⟨rfl, hb⟩; refine ⟨_, rfl, ?_⟩; have n0_ := Aside0.mk (Kd.R_below (by (with_reducible repeat (first | apply Kd.R_alloc | apply Kd.R_drewN | apply Kd.R_drew)); exact HO200.out) hb); have n1_ := Aside0.mk (Kd.R_below (by (with_reducible repeat (first | apply Kd.R_alloc | apply Kd.R_drewN | apply Kd.R_drew)); exact HO207.out) hb); have n2_ := Aside0.mk (Kd.R_below (by (with_reducible repeat (first | apply Kd.R_alloc | apply Kd.R_drewN | apply Kd.R_drew)); exact HO220.out) hb); have n3_ := Aside0.mk (below_step (by repeat (first | (with_reducible first | exact HB.out | apply below_alloc | apply pw_below_drewN | apply below_drew1) | exact HB.out)) hb); clear HO200; clear HO207; clear HO220; clear HB; have HO200 := n0_; have HO207 := n1_; have HO220 := n2_; have HB := n3_; clear n0_ n1_ n2_ n3_; (try clear hb); (try clear hb2); (try clear hk); (try clear hi)) | ((with_reducible refine gate_callee (f := 16) rfl ?_); refine goesL_ (some 59) rfl rfl Try.func16 (by kernel_rfl) rfl #[.agg #[.int .i64 t223, .int .i64 t224], .agg #[.int .i64 t225, .int .i64 t226]] rfl (by (try simp only [List.map_toArray, List.map_cons, List.map_nil]); first | done | rfl | (simp only [List.length_drop, List.length_take]; rfl)) ?_; (with_reducible refine (geo_Far.calls t223 t224 t225 t226 t227 t228 _ A23.out).mono ?_); rintro e w50 ⟨rfl, hb⟩; refine ⟨_, rfl, ?_⟩; have n0_ := Aside0.mk (Kd.R_below (by (with_reducible repeat (first | apply Kd.R_alloc | apply Kd.R_drewN | apply Kd.R_drew)); exact HO200.out) hb); have n1_ := Aside0.mk (Kd.R_below (by (with_reducible repeat (first | apply Kd.R_alloc | apply Kd.R_drewN | apply Kd.R_drew)); exact HO207.out) hb); have n2_ := Aside0.mk (Kd.R_below (by (with_reducible repeat (first | apply Kd.R_alloc | apply Kd.R_drewN | apply Kd.R_drew)); exact HO220.out) hb); have n3_ := Aside0.mk (below_step (by repeat (first | (with_reducible first | exact HB.out | apply below_alloc | apply pw_below_drewN | apply below_drew1) | exact HB.out)) hb); clear HO200; clear HO207; clear HO220; clear HB; have HO200 := n0_; have HO207 := n1_; have HO220 := n2_; have HB := n3_; clear n0_ n1_ n2_ n3_; (try clear hb); (try clear hb2); (try clear hk); (try clear hi)))
  (try simp only [Act.put, List.setIfInBounds_toArray, List.set_cons_zero, List.set_cons_succ])
  go_cut [15] (fun v15 wc => ∃ (kq : Nat) (x15_23 : Bool), v15 = .bool x15_23 ∧ Aside0 (windhoverlaw09_awake.j0 kq t186 t196 t203 t210 t216 t221 t227 x15_23 = some r) ∧ Aside0 (kq ≤ k) ∧ Aside0 (Below w.heap.size w wc))
  case first =>
    have H := HC24.out
    clear HC24
    by_cases c51 : t187 = 0
    · rw [if_pos c51] at H
      have c51b0 : (t187 == 0) = true := beq_iff_eq.mpr c51
      have c51b1 : (t187 != 0) = false := bne_eq_false_iff_eq.mpr c51
      clear c51
      (first | rw [c51b0] | (simp only [i64_w, i32_w]; rw [c51b0]) | skip)
      by_cases c52 : t197 = 0
      · rw [if_pos c52] at H
        have c52b0 : (t197 == 0) = true := beq_iff_eq.mpr c52
        have c52b1 : (t197 != 0) = false := bne_eq_false_iff_eq.mpr c52
        clear c52
        by_cases c53 : t204 = 0
        · rw [if_pos c53] at H
          have c53b0 : (t204 == 0) = true := beq_iff_eq.mpr c53
          have c53b1 : (t204 != 0) = false := bne_eq_false_iff_eq.mpr c53
          clear c53
          by_cases c54 : t211 = 0
          · rw [if_pos c54] at H
            have c54b0 : (t211 == 0) = true := beq_iff_eq.mpr c54
            have c54b1 : (t211 != 0) = false := bne_eq_false_iff_eq.mpr c54
            clear c54
            by_cases c55 : t217 = 0
            · rw [if_pos c55] at H
              have c55b0 : (t217 == 0) = true := beq_iff_eq.mpr c55
              have c55b1 : (t217 != 0) = false := bne_eq_false_iff_eq.mpr c55
              clear c55
              by_cases c56 : t222 = 0
              · rw [if_pos c56] at H
                have c56b0 : (t222 == 0) = true := beq_iff_eq.mpr c56
                have c56b1 : (t222 != 0) = false := bne_eq_false_iff_eq.mpr c56
                clear c56
                have H' := Aside0.mk H
                clear H
                go_wp2
                go_meet
                case rel => exact ⟨_, ((t228 == 0)), (by first | rfl | (simp; done) | (simp [*]; done)), H', ⟨by first | omega | exact Nat.le_refl _⟩, ⟨by repeat (first | (with_reducible first | exact HB.out | apply below_alloc | apply pw_below_drewN | apply below_drew1) | exact HB.out)⟩⟩
              · rw [if_neg c56] at H
                have c56b0 : (t222 == 0) = false := beq_eq_false_iff_ne.mpr c56
                have c56b1 : (t222 != 0) = true := bne_iff_ne.mpr c56
                have H' := Aside0.mk H
                clear H
                go_wp2
                go_meet
                case rel => exact ⟨_, (false), (by first | rfl | (simp; done) | (simp [*]; done)), H', ⟨by first | omega | exact Nat.le_refl _⟩, ⟨by repeat (first | (with_reducible first | exact HB.out | apply below_alloc | apply pw_below_drewN | apply below_drew1) | exact HB.out)⟩⟩
            · rw [if_neg c55] at H
              have c55b0 : (t217 == 0) = false := beq_eq_false_iff_ne.mpr c55
              have c55b1 : (t217 != 0) = true := bne_iff_ne.mpr c55
              have H' := Aside0.mk H
              clear H
              go_wp2
              go_meet
              case rel => exact ⟨_, (false), (by first | rfl | (simp; done) | (simp [*]; done)), H', ⟨by first | omega | exact Nat.le_refl _⟩, ⟨by repeat (first | (with_reducible first | exact HB.out | apply below_alloc | apply pw_below_drewN | apply below_drew1) | exact HB.out)⟩⟩
          · rw [if_neg c54] at H
            have c54b0 : (t211 == 0) = false := beq_eq_false_iff_ne.mpr c54
            have c54b1 : (t211 != 0) = true := bne_iff_ne.mpr c54
            have H' := Aside0.mk H
            clear H
            go_wp2
            go_meet
            case rel => exact ⟨_, (false), (by first | rfl | (simp; done) | (simp [*]; done)), H', ⟨by first | omega | exact Nat.le_refl _⟩, ⟨by repeat (first | (with_reducible first | exact HB.out | apply below_alloc | apply pw_below_drewN | apply below_drew1) | exact HB.out)⟩⟩
        · rw [if_neg c53] at H
          have c53b0 : (t204 == 0) = false := beq_eq_false_iff_ne.mpr c53
          have c53b1 : (t204 != 0) = true := bne_iff_ne.mpr c53
          have H' := Aside0.mk H
          clear H
          go_wp2
          go_meet
          case rel => exact ⟨_, (false), (by first | rfl | (simp; done) | (simp [*]; done)), H', ⟨by first | omega | exact Nat.le_refl _⟩, ⟨by repeat (first | (with_reducible first | exact HB.out | apply below_alloc | apply pw_below_drewN | apply below_drew1) | exact HB.out)⟩⟩
      · rw [if_neg c52] at H
        have c52b0 : (t197 == 0) = false := beq_eq_false_iff_ne.mpr c52
        have c52b1 : (t197 != 0) = true := bne_iff_ne.mpr c52
        have H' := Aside0.mk H
        clear H
        go_wp2
        go_meet
        case rel => exact ⟨_, (false), (by first | rfl | (simp; done) | (simp [*]; done)), H', ⟨by first | omega | exact Nat.le_refl _⟩, ⟨by repeat (first | (with_reducible first | exact HB.out | apply below_alloc | apply pw_below_drewN | apply below_drew1) | exact HB.out)⟩⟩
    · rw [if_neg c51] at H
      have c51b0 : (t187 == 0) = false := beq_eq_false_iff_ne.mpr c51
      have c51b1 : (t187 != 0) = true := bne_iff_ne.mpr c51
      (first | rw [c51b0] | (simp only [i64_w, i32_w]; rw [c51b0]) | skip)
      have H' := Aside0.mk H
      clear H
      go_wp2
      go_meet
      case rel => exact ⟨_, (false), (by first | rfl | (simp; done) | (simp [*]; done)), H', ⟨by first | omega | exact Nat.le_refl _⟩, ⟨by repeat (first | (with_reducible first | exact HB.out | apply below_alloc | apply pw_below_drewN | apply below_drew1) | exact HB.out)⟩⟩
  case rest =>
    clear HC24
    try clear c1
    try clear c2
    try clear p2
    try clear c3
    try clear c4
    try clear c5
    try clear c14
    try clear c16
    try clear c18
    try clear c20
    try clear c23
    try clear c27
    try clear c29
    try clear c32
    try clear c39
    try clear c40
    try clear c51
    try clear c51b0
    try clear c51b1
    try clear c52
    try clear c52b0
    try clear c52b1
    try clear c53
    try clear c53b0
    try clear c53b1
    try clear c54
    try clear c54b0
    try clear c54b1
    try clear c55
    try clear c55b0
    try clear c55b1
    try clear c56
    try clear c56b0
    try clear c56b1
    obtain ⟨kq, x15_23, rfl, HA, HJ23, HB⟩ := hcut
    cases kq with
    | zero => exact absurd HA.out (by simp [windhoverlaw09_awake.j0])
    | succ kj23 =>
      have H := HA.out
      clear HA
      simp only [windhoverlaw09_awake.j0] at H
      have HC57 := Aside0.mk H
      clear H
      go_upto_region 9 with (fail)
      go_cut [0] (fun v0 wc => ∃ (kq : Nat) (x0_56 : Bool), v0 = .bool x0_56 ∧ Aside0 (windhoverlaw09_awake.j1 kq x0_56 = some r) ∧ Aside0 (kq ≤ kj23) ∧ Aside0 (Below w.heap.size w wc))
      case first =>
        have H := HC57.out
        clear HC57
        by_cases c58 : x15_23 = true
        · subst c58
          have H1 : (if t186 = 1 then (if t196 = true then (if t203 = 1 then (if t210 = (-1) then (if t216 = true then (if t221 = 200 then (if t227 = 25 then ((windhoverlaw09_square.f).bind fun t229 => (if 2 ≤ (t229.length : Int) then ((geo_Simple.f kj23 (t229.take 2)).bind fun t236 => (windhoverlaw09_awake.j1 kj23 (t236 == 90))) else (none))) else (windhoverlaw09_awake.j1 kj23 false)) else (windhoverlaw09_awake.j1 kj23 false)) else (windhoverlaw09_awake.j1 kj23 false)) else (windhoverlaw09_awake.j1 kj23 false)) else (windhoverlaw09_awake.j1 kj23 false)) else (windhoverlaw09_awake.j1 kj23 false)) else (windhoverlaw09_awake.j1 kj23 false)) = some r := by rw [if_pos rfl] at H; exact H
          clear H
          have H := H1
          clear H1
          by_cases c59 : t186 = 1
          · rw [if_pos c59] at H
            have c59b0 : (t186 == 1) = true := beq_iff_eq.mpr c59
            have c59b1 : (t186 != 1) = false := bne_eq_false_iff_eq.mpr c59
            clear c59
            (first | rw [c59b0] | (simp only [i64_w, i32_w]; rw [c59b0]) | skip)
            by_cases c60 : t196 = true
            · subst c60
              have H1 : (if t203 = 1 then (if t210 = (-1) then (if t216 = true then (if t221 = 200 then (if t227 = 25 then ((windhoverlaw09_square.f).bind fun t229 => (if 2 ≤ (t229.length : Int) then ((geo_Simple.f kj23 (t229.take 2)).bind fun t236 => (windhoverlaw09_awake.j1 kj23 (t236 == 90))) else (none))) else (windhoverlaw09_awake.j1 kj23 false)) else (windhoverlaw09_awake.j1 kj23 false)) else (windhoverlaw09_awake.j1 kj23 false)) else (windhoverlaw09_awake.j1 kj23 false)) else (windhoverlaw09_awake.j1 kj23 false)) = some r := by rw [if_pos rfl] at H; exact H
              clear H
              have H := H1
              clear H1
              by_cases c61 : t203 = 1
              · rw [if_pos c61] at H
                have c61b0 : (t203 == 1) = true := beq_iff_eq.mpr c61
                have c61b1 : (t203 != 1) = false := bne_eq_false_iff_eq.mpr c61
                clear c61
                by_cases c62 : t210 = (-1)
                · rw [if_pos c62] at H
                  have c62b0 : (t210 == (-1)) = true := beq_iff_eq.mpr c62
                  have c62b1 : (t210 != (-1)) = false := bne_eq_false_iff_eq.mpr c62
                  clear c62
                  by_cases c63 : t216 = true
                  · subst c63
                    have H1 : (if t221 = 200 then (if t227 = 25 then ((windhoverlaw09_square.f).bind fun t229 => (if 2 ≤ (t229.length : Int) then ((geo_Simple.f kj23 (t229.take 2)).bind fun t236 => (windhoverlaw09_awake.j1 kj23 (t236 == 90))) else (none))) else (windhoverlaw09_awake.j1 kj23 false)) else (windhoverlaw09_awake.j1 kj23 false)) = some r := by rw [if_pos rfl] at H; exact H
                    clear H
                    have H := H1
                    clear H1
                    by_cases c64 : t221 = 200
                    · rw [if_pos c64] at H
                      have c64b0 : (t221 == 200) = true := beq_iff_eq.mpr c64
                      have c64b1 : (t221 != 200) = false := bne_eq_false_iff_eq.mpr c64
                      clear c64
                      by_cases c65 : t227 = 25
                      · rw [if_pos c65] at H
                        have c65b0 : (t227 == 25) = true := beq_iff_eq.mpr c65
                        have c65b1 : (t227 != 25) = false := bne_eq_false_iff_eq.mpr c65
                        clear c65
                        replace H := Option.bind_eq_some_iff.mp H
                        obtain ⟨t229, A660, H⟩ := H
                        replace H : (if 2 ≤ (t229.length : Int) then ((geo_Simple.f kj23 (t229.take 2)).bind fun t236 => (windhoverlaw09_awake.j1 kj23 (t236 == 90))) else (none)) = some r := H
                        have A66 := Aside0.mk A660
                        clear A660
                        by_cases c67 : 2 ≤ (t229.length : Int)
                        · rw [if_pos c67] at H
                          have c67b0 := eq_true c67
                          have c67b1 : decide (2 ≤ (t229.length : Int)) = true := decide_eq_true c67
                          clear c67
                          obtain ⟨y232, hy232⟩ : ∃ y_ : List (S23), y_ = (t229.take 2) := ⟨_, rfl⟩
                          replace H : ((geo_Simple.f kj23 y232).bind fun t236 => (windhoverlaw09_awake.j1 kj23 (t236 == 90))) = some r := by first | (rw [hy232]; with_reducible exact H) | (have H2_ := (Option.bind_some _ _).symm.trans H; rw [hy232]; with_reducible exact H2_) | (have H2_ := (Option.bind_some _ _).symm.trans H; with_reducible exact H2_) | with_reducible exact H | (rw [hy232]; exact H) | exact H
                          have Ny232 := Aside0.mk hy232
                          clear hy232
                          replace H := Option.bind_eq_some_iff.mp H
                          obtain ⟨t236, A680, H⟩ := H
                          replace H : (windhoverlaw09_awake.j1 kj23 (t236 == 90)) = some r := H
                          have A68 := Aside0.mk A680
                          clear A680
                          have H' := Aside0.mk H
                          clear H
                          go_wp2_with (first | (go_at_call 40; (with_reducible refine (windhoverlaw09_square.calls  t229 _ A66.out).mono ?_); rintro e w69 ⟨v230, rfl, ho0, hb⟩; have n0_ := Aside0.mk (Kd.R_lower ho0 (below_size (by repeat (first | (with_reducible first | exact HB.out | apply below_alloc | apply pw_below_drewN | apply below_drew1) | exact HB.out)))); have n1_ := Aside0.mk (below_step (by repeat (first | (with_reducible first | exact HB.out | apply below_alloc | apply pw_below_drewN | apply below_drew1) | exact HB.out)) hb); clear HB; have HO231 := n0_; have HB := n1_; clear n0_ n1_; (try clear hb); (try clear hb2); (try clear hk); (try clear hi); (try clear ho0); obtain ⟨Ao71, co71, eo71⟩ := Kd.R_slice HO231.out; subst eo71; have q70 : (2 : Int) ≤ ((t229.length : Int) : Int) := of_decide_eq_true (by first | (with_reducible assumption) | assumption); obtain ⟨i070, hi070, _, hsz70, _⟩ := info_parts info23; have hroom70 : t229.length ≤ co71 := (Kd.R_reads' HO231.out).2.1; have hC70 : Kd.C k23 _ Ao71 t229.length t229 := (Kd.R_reads' HO231.out).2.2; have hcut70 := cut_to (P := Try.prog) 35 23 .i64 Try.underlying35 hi070 Ao71 t229.length co71 2 (by omega) q70 hroom70; have hr70 := Kd.C_take (m := 2) hC70 (by omega); have hy70 : y232.length = (2 : Int).toNat := (by rw [Ny232.out, List.length_take]; omega); rw [← Ny232.out] at hr70; rw [← hy70] at hcut70; have HR235 := Aside0.mk hr70; have HC235 := Aside0.mk (show y232.length ≤ co71 from by omega); clear hr70 hC70 hroom70 hi070 hsz70; have KY70 := Aside0.mk hy70; clear hy70; have KL70 := Aside0.mk (show 2 ≤ t229.length from by omega); replace q70 := eq_true q70) | (go_at_call 22; (with_reducible refine (geo_Simple.calls kj23 _ _ y232 t236 _ ?side1 ?side2 A68.out).mono ?_); (case side1 => repeat (first | exact (by repeat (first | (with_reducible exact HR235.out) | (with_reducible refine Kd.C_alloc ?_ _) | (with_reducible refine Kd.C_drewN ?_ _) | (with_reducible refine Kd.C_drew ?_) | exact HR235.out)) | (with_reducible refine Kd.C_alloc ?_ _) | (with_reducible refine Kd.C_drewN ?_ _) | (with_reducible refine Kd.C_drew ?_))); (case side2 => exact HC235.out); rintro e w72 ⟨rfl, hb⟩; have n0_ := Aside0.mk (Kd.R_below (by (with_reducible repeat (first | apply Kd.R_alloc | apply Kd.R_drewN | apply Kd.R_drew)); exact HO231.out) hb); have n1_ := Aside0.mk (Kd.C_below (by repeat (first | (with_reducible exact HR235.out) | (with_reducible refine Kd.C_alloc ?_ _) | (with_reducible refine Kd.C_drewN ?_ _) | (with_reducible refine Kd.C_drew ?_) | exact HR235.out)) hb); have n2_ := Aside0.mk (below_step (by repeat (first | (with_reducible first | exact HB.out | apply below_alloc | apply pw_below_drewN | apply below_drew1) | exact HB.out)) hb); clear HO231; clear HR235; clear HB; have HO231 := n0_; have HR235 := n1_; have HB := n2_; clear n0_ n1_ n2_; (try clear hb); (try clear hb2); (try clear hk); (try clear hi)))
                          go_meet
                          case rel => exact ⟨_, ((t236 == 90)), (by first | rfl | (simp; done) | (simp [*]; done)), H', ⟨by have := HJ23.out; first | omega | exact Nat.le_refl _⟩, ⟨by repeat (first | (with_reducible first | exact HB.out | apply below_alloc | apply pw_below_drewN | apply below_drew1) | exact HB.out)⟩⟩
                        · rw [if_neg c67] at H
                          exact absurd H (by simp)
                      · rw [if_neg c65] at H
                        have c65b0 : (t227 == 25) = false := beq_eq_false_iff_ne.mpr c65
                        have c65b1 : (t227 != 25) = true := bne_iff_ne.mpr c65
                        have H' := Aside0.mk H
                        clear H
                        go_wp2
                        go_meet
                        case rel => exact ⟨_, (false), (by first | rfl | (simp; done) | (simp [*]; done)), H', ⟨by have := HJ23.out; first | omega | exact Nat.le_refl _⟩, ⟨by repeat (first | (with_reducible first | exact HB.out | apply below_alloc | apply pw_below_drewN | apply below_drew1) | exact HB.out)⟩⟩
                    · rw [if_neg c64] at H
                      have c64b0 : (t221 == 200) = false := beq_eq_false_iff_ne.mpr c64
                      have c64b1 : (t221 != 200) = true := bne_iff_ne.mpr c64
                      have H' := Aside0.mk H
                      clear H
                      go_wp2
                      go_meet
                      case rel => exact ⟨_, (false), (by first | rfl | (simp; done) | (simp [*]; done)), H', ⟨by have := HJ23.out; first | omega | exact Nat.le_refl _⟩, ⟨by repeat (first | (with_reducible first | exact HB.out | apply below_alloc | apply pw_below_drewN | apply below_drew1) | exact HB.out)⟩⟩
                  · replace c63 := Bool.eq_false_iff.mpr c63
                    subst c63
                    have H1 : (windhoverlaw09_awake.j1 kj23 false) = some r := by rw [if_neg (show ¬ (false = true) by decide)] at H; exact H
                    clear H
                    have H := H1
                    clear H1
                    have H' := Aside0.mk H
                    clear H
                    go_wp2
                    go_meet
                    case rel => exact ⟨_, (false), (by first | rfl | (simp; done) | (simp [*]; done)), H', ⟨by have := HJ23.out; first | omega | exact Nat.le_refl _⟩, ⟨by repeat (first | (with_reducible first | exact HB.out | apply below_alloc | apply pw_below_drewN | apply below_drew1) | exact HB.out)⟩⟩
                · rw [if_neg c62] at H
                  have c62b0 : (t210 == (-1)) = false := beq_eq_false_iff_ne.mpr c62
                  have c62b1 : (t210 != (-1)) = true := bne_iff_ne.mpr c62
                  have H' := Aside0.mk H
                  clear H
                  go_wp2
                  go_meet
                  case rel => exact ⟨_, (false), (by first | rfl | (simp; done) | (simp [*]; done)), H', ⟨by have := HJ23.out; first | omega | exact Nat.le_refl _⟩, ⟨by repeat (first | (with_reducible first | exact HB.out | apply below_alloc | apply pw_below_drewN | apply below_drew1) | exact HB.out)⟩⟩
              · rw [if_neg c61] at H
                have c61b0 : (t203 == 1) = false := beq_eq_false_iff_ne.mpr c61
                have c61b1 : (t203 != 1) = true := bne_iff_ne.mpr c61
                have H' := Aside0.mk H
                clear H
                go_wp2
                go_meet
                case rel => exact ⟨_, (false), (by first | rfl | (simp; done) | (simp [*]; done)), H', ⟨by have := HJ23.out; first | omega | exact Nat.le_refl _⟩, ⟨by repeat (first | (with_reducible first | exact HB.out | apply below_alloc | apply pw_below_drewN | apply below_drew1) | exact HB.out)⟩⟩
            · replace c60 := Bool.eq_false_iff.mpr c60
              subst c60
              have H1 : (windhoverlaw09_awake.j1 kj23 false) = some r := by rw [if_neg (show ¬ (false = true) by decide)] at H; exact H
              clear H
              have H := H1
              clear H1
              have H' := Aside0.mk H
              clear H
              go_wp2
              go_meet
              case rel => exact ⟨_, (false), (by first | rfl | (simp; done) | (simp [*]; done)), H', ⟨by have := HJ23.out; first | omega | exact Nat.le_refl _⟩, ⟨by repeat (first | (with_reducible first | exact HB.out | apply below_alloc | apply pw_below_drewN | apply below_drew1) | exact HB.out)⟩⟩
          · rw [if_neg c59] at H
            have c59b0 : (t186 == 1) = false := beq_eq_false_iff_ne.mpr c59
            have c59b1 : (t186 != 1) = true := bne_iff_ne.mpr c59
            (first | rw [c59b0] | (simp only [i64_w, i32_w]; rw [c59b0]) | skip)
            have H' := Aside0.mk H
            clear H
            go_wp2
            go_meet
            case rel => exact ⟨_, (false), (by first | rfl | (simp; done) | (simp [*]; done)), H', ⟨by have := HJ23.out; first | omega | exact Nat.le_refl _⟩, ⟨by repeat (first | (with_reducible first | exact HB.out | apply below_alloc | apply pw_below_drewN | apply below_drew1) | exact HB.out)⟩⟩
        · replace c58 := Bool.eq_false_iff.mpr c58
          subst c58
          have H1 : (windhoverlaw09_awake.j1 kj23 false) = some r := by rw [if_neg (show ¬ (false = true) by decide)] at H; exact H
          clear H
          have H := H1
          clear H1
          have H' := Aside0.mk H
          clear H
          go_wp2
          go_meet
          case rel => exact ⟨_, (false), (by first | rfl | (simp; done) | (simp [*]; done)), H', ⟨by have := HJ23.out; first | omega | exact Nat.le_refl _⟩, ⟨by repeat (first | (with_reducible first | exact HB.out | apply below_alloc | apply pw_below_drewN | apply below_drew1) | exact HB.out)⟩⟩
      case rest =>
        clear HC57
        try clear c1
        try clear c2
        try clear p2
        try clear c3
        try clear c4
        try clear c5
        try clear c6
        try clear q7
        try clear c14
        try clear c16
        try clear c18
        try clear c20
        try clear c23
        try clear c27
        try clear c29
        try clear c32
        try clear c39
        try clear c40
        try clear c51
        try clear c51b0
        try clear c51b1
        try clear c52
        try clear c52b0
        try clear c52b1
        try clear c53
        try clear c53b0
        try clear c53b1
        try clear c54
        try clear c54b0
        try clear c54b1
        try clear c55
        try clear c55b0
        try clear c55b1
        try clear c56
        try clear c56b0
        try clear c56b1
        try clear c58
        try clear c59
        try clear c59b0
        try clear c59b1
        try clear c60
        try clear c61
        try clear c61b0
        try clear c61b1
        try clear c62
        try clear c62b0
        try clear c62b1
        try clear c63
        try clear c64
        try clear c64b0
        try clear c64b1
        try clear c65
        try clear c65b0
        try clear c65b1
        try clear c67
        try clear c67b0
        try clear c67b1
        try clear q70
        try clear p2
        try clear q70
        obtain ⟨kq, x0_56, rfl, HA, HJ56, HB⟩ := hcut
        cases kq with
        | zero => exact absurd HA.out (by simp [windhoverlaw09_awake.j1])
        | succ kj56 =>
          have H := HA.out
          clear HA
          simp only [windhoverlaw09_awake.j1] at H
          obtain rfl := Option.some.inj H
          go_wp2
          go_ret
          exact ⟨by first | rfl | (simp [errW_none, errW_some] <;> rfl) | (simp [*, errW_none, errW_some] <;> rfl), by repeat (first | (with_reducible first | exact HB.out | apply below_alloc | apply pw_below_drewN | apply below_drew1) | exact HB.out)⟩

/-! ### windhoverlaw09_lent: function 21 -/
def windhoverlaw09_lent.f (l0 : List (S23)) : Option ((List (S23))) := if ([] : List (S23)).length + l0.length < 8796093022208 then ((some (([] : List (S23)) ++ l0 : List (S23))).bind fun y237 => (if y237.length < 8796093022208 then ((some (y237 ++ [(⟨(-77), (-77)⟩ : S23)] : List (S23))).bind fun y240 => (if 0 ≤ (l0.length : Int) then (if (l0.length : Int) ≤ (y240.length : Int) then (some (y240.take ((l0.length : Int) : Int).toNat)) else (none)) else (none))) else (none))) else (none)
set_option maxHeartbeats 8000000 in
set_option maxRecDepth 100000 in
theorem windhoverlaw09_lent.calls (A0 : Option Addr) (c0 : Nat) (l0 : List (S23)) (r : List (S23)) (w : World) (hr0 : Kd.C k23 w A0 l0.length l0) (hc0 : l0.length ≤ c0) (h : windhoverlaw09_lent.f l0 = some r) :
    Calls Try.prog 21 #[.slice A0 l0.length c0] w fun e w' => ∃ v0_ : Value, e = .returned (v0_) ∧ Kd.R k23 23 w' w.heap.size (fun _ => True) v0_ r ∧ Below w.heap.size w w' := by
  have hu23 := Try.underlying23
  have HR0 := Aside0.mk hr0
  have HC0 := Aside0.mk hc0
  clear hr0 hc0
  have HB := Aside0.mk (Below.refl w.heap.size w)
  have H : (if ([] : List (S23)).length + l0.length < 8796093022208 then ((some (([] : List (S23)) ++ l0 : List (S23))).bind fun y237 => (if y237.length < 8796093022208 then ((some (y237 ++ [(⟨(-77), (-77)⟩ : S23)] : List (S23))).bind fun y240 => (if 0 ≤ (l0.length : Int) then (if (l0.length : Int) ≤ (y240.length : Int) then (some (y240.take ((l0.length : Int) : Int).toNat)) else (none)) else (none))) else (none))) else (none)) = some r := h
  clear h
  by_cases c2 : ([] : List (S23)).length + l0.length < 8796093022208
  · rw [if_pos c2] at H
    have LMc2 := Aside0.mk c2
    clear c2
    obtain ⟨y237, hy237⟩ : ∃ y_ : List (S23), y_ = (([] : List (S23)) ++ l0) := ⟨_, rfl⟩
    replace H : (if y237.length < 8796093022208 then ((some (y237 ++ [(⟨(-77), (-77)⟩ : S23)] : List (S23))).bind fun y240 => (if 0 ≤ (l0.length : Int) then (if (l0.length : Int) ≤ (y240.length : Int) then (some (y240.take ((l0.length : Int) : Int).toNat)) else (none)) else (none))) else (none)) = some r := by first | (rw [hy237]; with_reducible exact H) | (have H2_ := (Option.bind_some _ _).symm.trans H; rw [hy237]; with_reducible exact H2_) | (have H2_ := (Option.bind_some _ _).symm.trans H; with_reducible exact H2_) | with_reducible exact H | (rw [hy237]; exact H) | exact H
    have Ny237 := Aside0.mk hy237
    clear hy237
    by_cases c3 : y237.length < 8796093022208
    · rw [if_pos c3] at H
      have LMc3 := Aside0.mk c3
      clear c3
      obtain ⟨y240, hy240⟩ : ∃ y_ : List (S23), y_ = (y237 ++ [(⟨(-77), (-77)⟩ : S23)]) := ⟨_, rfl⟩
      replace H : (if 0 ≤ (l0.length : Int) then (if (l0.length : Int) ≤ (y240.length : Int) then (some (y240.take ((l0.length : Int) : Int).toNat)) else (none)) else (none)) = some r := by first | (rw [hy240]; with_reducible exact H) | (have H2_ := (Option.bind_some _ _).symm.trans H; rw [hy240]; with_reducible exact H2_) | (have H2_ := (Option.bind_some _ _).symm.trans H; with_reducible exact H2_) | with_reducible exact H | (rw [hy240]; exact H) | exact H
      have Ny240 := Aside0.mk hy240
      clear hy240
      by_cases c4 : 0 ≤ (l0.length : Int)
      · rw [if_pos c4] at H
        have c4b0 := eq_true c4
        have c4b1 : decide (0 ≤ (l0.length : Int)) = true := decide_eq_true c4
        clear c4
        by_cases c5 : (l0.length : Int) ≤ (y240.length : Int)
        · rw [if_pos c5] at H
          have c5b0 := eq_true c5
          have c5b1 : decide ((l0.length : Int) ≤ (y240.length : Int)) = true := decide_eq_true c5
          clear c5
          obtain ⟨y243, hy243⟩ : ∃ y_ : List (S23), y_ = (y240.take ((l0.length : Int) : Int).toNat) := ⟨_, rfl⟩
          replace H : (some y243) = some r := by first | (rw [hy243]; with_reducible exact H) | (have H2_ := (Option.bind_some _ _).symm.trans H; rw [hy243]; with_reducible exact H2_) | (have H2_ := (Option.bind_some _ _).symm.trans H; with_reducible exact H2_) | with_reducible exact H | (rw [hy243]; exact H) | exact H
          have Ny243 := Aside0.mk hy243
          clear hy243
          obtain rfl := Option.some.inj H
          go_enter Try.func21, Try.ntmps21
          go_wp2_with (first | ((with_reducible refine gate_builtin (b := .append) (xs := #[.tmp 4, .tmp 5]) rfl ?_); at_builtin; refine Kd.R_append_rows k23 (w0 := w) w.heap.size rfl (.tmp 4) (.tmp 5) 35 23 (.agg #[(.int .i64 0), (.int .i64 0)]) 16 rfl Try.underlying35 info23 rfl (by decide) (by omega) (.slice none 0 0) ([] : List (S23)) l0 _ _ _ (fun _ => True) (fun _ => False) rfl rfl ?aO ?aR (fun _ _ h => h) (fun _ h => h.elim) ?aF ?aB ?aS ?aL ?_; (case aR => repeat (first | exact HR0.out | (with_reducible refine Kd.C_alloc ?_ _) | (with_reducible refine Kd.C_drewN ?_ _) | (with_reducible refine Kd.C_drew ?_))); (case aB => exact (by repeat (first | (with_reducible first | exact HB.out | apply below_alloc | apply pw_below_drewN | apply below_drew1) | exact HB.out))); (case aF => exact (fun _ _ => trivial)); (case aO => exact ((Kd.R_nil _ _ _ _ (fun _ => True)))); (case aS => exact (below_size (by repeat (first | (with_reducible first | exact HB.out | apply below_alloc | apply pw_below_drewN | apply below_drew1) | exact HB.out)))); (case aL => have := LMc2.out; omega); intro v238 w6 ho hb hg hat; rw [← Ny237.out] at ho; have n0_ := Aside0.mk (hb); have n1_ := Aside0.mk (ho); clear HB; have HB := n0_; have HO239 := n1_; clear n0_ n1_; clear ho hb hg hat) | ((with_reducible refine gate_builtin (b := .append) (xs := #[.tmp 7, .tmp 9]) rfl ?_); at_builtin; refine Kd.R_append k23 (w0 := w) w.heap.size rfl (.tmp 7) (.tmp 9) 35 23 (.agg #[(.int .i64 0), (.int .i64 0)]) 16 rfl Try.underlying35 info23 rfl (by decide) (by omega) v238 y237 (⟨(-77), (-77)⟩ : S23) [.int .i64 (-77), .int .i64 (-77)] (fun _ => True) (fun _ => False) rfl rfl ?aP (fun _ hk => hk.elim) ?aF ?aO ?aB ?aS ?aL ?_; (case aP => exact k23_mkM _ _ _ (⟨(-77), (-77)⟩ : S23)); (case aB => exact (by repeat (first | (with_reducible first | exact HB.out | apply below_alloc | apply pw_below_drewN | apply below_drew1) | exact HB.out))); (case aF => exact (fun _ _ => trivial)); (case aO => exact (by (with_reducible repeat (first | apply Kd.R_alloc | apply Kd.R_drewN | apply Kd.R_drew)); exact HO239.out)); (case aS => exact (below_size (by repeat (first | (with_reducible first | exact HB.out | apply below_alloc | apply pw_below_drewN | apply below_drew1) | exact HB.out)))); (case aL => have := LMc3.out; omega); intro v241 w7 ho hb hg hat; rw [← Ny240.out] at ho; have n0_ := Aside0.mk (hb); have n1_ := Aside0.mk (ho); clear HB; clear HO239; have HB := n0_; have HO242 := n1_; clear n0_ n1_; clear ho hb hg hat; obtain ⟨Ao8, co8, eo8⟩ := Kd.R_slice HO242.out; subst eo8; have q9 : ((l0.length : Int) : Int) ≤ ((y240.length : Int) : Int) := of_decide_eq_true (by first | (with_reducible assumption) | assumption); obtain ⟨i09, hi09, _, hsz9, _⟩ := info_parts info23; have hcut9 := cut_to (P := Try.prog) 35 23 .i64 Try.underlying35 hi09 Ao8 y240.length co8 (l0.length : Int) (of_decide_eq_true (by first | (with_reducible assumption) | assumption)) q9 (Kd.R_reads' HO242.out).2.1; have hr9 := Kd.R_take (m := ((l0.length : Int) : Int).toNat) HO242.out (by omega); have hy9 : y243.length = ((l0.length : Int) : Int).toNat := (by rw [Ny243.out, List.length_take]; omega); rw [← Ny243.out] at hr9; rw [← hy9] at hr9 hcut9; clear hy9 hi09 hsz9 HO242; have HO245 := Aside0.mk hr9; clear hr9; replace q9 := eq_true q9))
          go_ret
          exact ⟨_, by first | rfl | (simp [errW_none, errW_some] <;> rfl) | (simp [*, errW_none, errW_some] <;> rfl), by (with_reducible repeat (first | apply Kd.R_alloc | apply Kd.R_drewN | apply Kd.R_drew)); exact HO245.out, by repeat (first | (with_reducible first | exact HB.out | apply below_alloc | apply pw_below_drewN | apply below_drew1) | exact HB.out)⟩
        · rw [if_neg c5] at H
          exact absurd H (by simp)
      · rw [if_neg c4] at H
        exact absurd H (by simp)
    · rw [if_neg c3] at H
      exact absurd H (by simp)
  · rw [if_neg c2] at H
    exact absurd H (by simp)

end Go.Proofs.Ytannklfnfacpeaa.X
