-- Written by a program of this repo (xp.py), over the print of the kit.
import Derived.Test.YtannklfnfacpeaaXx0
import Derived.Test.YtannklfnfacpeaaXx1
import Derived.Test.YtannklfnfacpeaaXx3
import Derived.Test.YtannklfnfacpeaaXHArea
import Derived.Test.YtannklfnfacpeaaXHSide
import Derived.Test.YtannklfnfacpeaaXHSimple
import Derived.Test.YtannklfnfacpeaaXHTouches
namespace Go.Proofs.Ytannklfnfacpeaa.X
open Go.RowKit Go.Proofs.YtannklfnfacpeaaW.PrintWords Go.Proofs.YtannklfnfacpeaaW.PrintLast Go.Proofs.YtannklfnfacpeaaW.PrintMore
attribute [local go_sem] max2_int min2_int max_two min_two max_three min_three max_four min_four   -- for this text's walks alone
set_option linter.unusedVariables false
set_option linter.unusedSimpArgs false

-- EXTERNAL: function 22 (geo_Simple): HSimple

-- EXTERNAL: function 23 (geo_Area2): HArea

-- EXTERNAL: function 27 (geo_Side): HSide

-- EXTERNAL: function 29 (geo_Touches): HTouches

/-! ### windhoverlaw09_at: function 32 -/
def windhoverlaw09_at.f (a0 : Int) (a1 : Int) : Option (Int × Int) := some (a0, a1)
set_option maxHeartbeats 8000000 in
set_option maxRecDepth 100000 in
theorem windhoverlaw09_at.calls (a0 : Int) (a1 : Int) (r1 : Int) (r2 : Int) (w : World) (h : windhoverlaw09_at.f a0 a1 = some (r1, r2)) :
    Calls Try.prog 32 #[.int .i64 a0, .int .i64 a1] w fun e w' => e = .returned (.agg #[.int .i64 r1, .int .i64 r2]) ∧ Below w.heap.size w w' := by
  have hu23 := Try.underlying23
  have HB := Aside0.mk (Below.refl w.heap.size w)
  have H : (some (a0, a1)) = some (r1, r2) := h
  clear h
  simp only [Option.some.injEq, Prod.mk.injEq] at H
  obtain ⟨rfl, rfl⟩ := H
  go_enter Try.func32, Try.ntmps32
  go_wp2_with (first | ((with_reducible refine gate_dst (N := 4) rfl ?_); refine box_event ?hg (N := 4) ?hd (cs := #[.int .i64 0, .int .i64 0]) (t := 23) ?hr ?_; (case hd => rfl); (case hg => rfl); (case hr => first | (go_simp; done) | (go_simp; rfl)); intro gb173 hg w3 hbox hb; have n0_ := Aside0.mk (below_step (by repeat (first | (with_reducible first | exact HB.out | apply below_alloc | apply pw_below_drewN | apply below_drew1) | exact HB.out)) hb); have n1_ := Aside0.mk (hbox); have n2_ := Aside0.mk ((by rw [hg]; exact (below_size (by repeat (first | (with_reducible first | exact HB.out | apply below_alloc | apply pw_below_drewN | apply below_drew1) | exact HB.out))) : w.heap.size ≤ gb173)); have n3_ := Aside0.mk ((by rw [hg]; exact (below_size (by repeat (first | (with_reducible first | exact HB.out | apply below_alloc | apply pw_below_drewN | apply below_drew1) | exact HB.out))) : w.heap.size ≤ gb173)); clear HB; have HB := n0_; have BK173 := n1_; have GW173 := n2_; have GE173 := n3_; clear n0_ n1_ n2_ n3_; clear hb hbox hg; have hcz4_0 : w3.cell? ⟨gb173, 0, none⟩ = some (.int .i64 0) := (blk_cell BK173.out 0).trans rfl; have hcz4_1 : w3.cell? ⟨gb173, 1, none⟩ = some (.int .i64 0) := (blk_cell BK173.out 1).trans rfl; have hfz4_0 := blk_frozen BK173.out 0; have hfz4_1 := blk_frozen BK173.out 1))
  refine bodyPost_ret (results_cell_row rfl _ _ gb173 23 #[.int .i64 a0, .int .i64 a1] (0, 0) _ rfl (by (with_reducible repeat (first | refine blk_drewN ?_ _ | refine blk_drew ?_ | refine blk_alloc ?_ _)); refine blk_put (cs := #[.int .i64 a0, .int .i64 0]) ?_ 1 _ rfl; (with_reducible repeat (first | refine blk_drewN ?_ _ | refine blk_drew ?_ | refine blk_alloc ?_ _)); refine blk_put (cs := #[.int .i64 0, .int .i64 0]) ?_ 0 _ rfl; (with_reducible repeat (first | refine blk_drewN ?_ _ | refine blk_drew ?_ | refine blk_alloc ?_ _)); exact BK173.out) Try.underlying23 rfl (by kernel_rfl)) rfl ?_
  exact ⟨by first | rfl | (simp [errW_none, errW_some] <;> rfl) | (simp [*, errW_none, errW_some] <;> rfl), by repeat (first | (with_reducible first | exact HB.out | apply below_alloc | apply pw_below_drewN | apply below_drew1 | refine below_set ?_ GE173.out) | exact HB.out)⟩

/-! ### windhoverlaw09_arrow: function 39 -/
def windhoverlaw09_arrow.f  : Option ((List (S23))) := (windhoverlaw09_at.f 0 0).bind fun bt174 => ((windhoverlaw09_at.f 10 5).bind fun bt176 => ((windhoverlaw09_at.f 0 10).bind fun bt178 => ((windhoverlaw09_at.f 3 5).bind fun bt180 => (some (([(⟨bt174.1, bt174.2⟩ : S23), (⟨bt176.1, bt176.2⟩ : S23), (⟨bt178.1, bt178.2⟩ : S23), (⟨bt180.1, bt180.2⟩ : S23)] : List (S23)))))))
set_option maxHeartbeats 8000000 in
set_option maxRecDepth 100000 in
theorem windhoverlaw09_arrow.calls  (r : List (S23)) (w : World) (h : windhoverlaw09_arrow.f  = some r) :
    Calls Try.prog 39 #[] w fun e w' => ∃ v0_ : Value, e = .returned (v0_) ∧ Kd.R k23 23 w' w.heap.size (fun _ => True) v0_ r ∧ Below w.heap.size w w' := by
  have HB := Aside0.mk (Below.refl w.heap.size w)
  have H : ((windhoverlaw09_at.f 0 0).bind fun bt174 => ((windhoverlaw09_at.f 10 5).bind fun bt176 => ((windhoverlaw09_at.f 0 10).bind fun bt178 => ((windhoverlaw09_at.f 3 5).bind fun bt180 => (some (([(⟨bt174.1, bt174.2⟩ : S23), (⟨bt176.1, bt176.2⟩ : S23), (⟨bt178.1, bt178.2⟩ : S23), (⟨bt180.1, bt180.2⟩ : S23)] : List (S23)))))))) = some r := h
  clear h
  replace H := Option.bind_eq_some_iff.mp H
  obtain ⟨⟨t174, t175⟩, A10, H⟩ := H
  replace H : ((windhoverlaw09_at.f 10 5).bind fun bt176 => ((windhoverlaw09_at.f 0 10).bind fun bt178 => ((windhoverlaw09_at.f 3 5).bind fun bt180 => (some (([(⟨t174, t175⟩ : S23), (⟨bt176.1, bt176.2⟩ : S23), (⟨bt178.1, bt178.2⟩ : S23), (⟨bt180.1, bt180.2⟩ : S23)] : List (S23))))))) = some r := H
  have A1 := Aside0.mk A10
  clear A10
  replace H := Option.bind_eq_some_iff.mp H
  obtain ⟨⟨t176, t177⟩, A20, H⟩ := H
  replace H : ((windhoverlaw09_at.f 0 10).bind fun bt178 => ((windhoverlaw09_at.f 3 5).bind fun bt180 => (some (([(⟨t174, t175⟩ : S23), (⟨t176, t177⟩ : S23), (⟨bt178.1, bt178.2⟩ : S23), (⟨bt180.1, bt180.2⟩ : S23)] : List (S23)))))) = some r := H
  have A2 := Aside0.mk A20
  clear A20
  replace H := Option.bind_eq_some_iff.mp H
  obtain ⟨⟨t178, t179⟩, A30, H⟩ := H
  replace H : ((windhoverlaw09_at.f 3 5).bind fun bt180 => (some (([(⟨t174, t175⟩ : S23), (⟨t176, t177⟩ : S23), (⟨t178, t179⟩ : S23), (⟨bt180.1, bt180.2⟩ : S23)] : List (S23))))) = some r := H
  have A3 := Aside0.mk A30
  clear A30
  replace H := Option.bind_eq_some_iff.mp H
  obtain ⟨⟨t180, t181⟩, A40, H⟩ := H
  replace H : (some (([(⟨t174, t175⟩ : S23), (⟨t176, t177⟩ : S23), (⟨t178, t179⟩ : S23), (⟨t180, t181⟩ : S23)] : List (S23)))) = some r := H
  have A4 := Aside0.mk A40
  clear A40
  obtain ⟨y182, hy182⟩ : ∃ y_ : List (S23), y_ = (([(⟨t174, t175⟩ : S23), (⟨t176, t177⟩ : S23), (⟨t178, t179⟩ : S23), (⟨t180, t181⟩ : S23)] : List (S23))) := ⟨_, rfl⟩
  replace H : (some y182) = some r := by first | (rw [hy182]; with_reducible exact H) | (have H2_ := (Option.bind_some _ _).symm.trans H; rw [hy182]; with_reducible exact H2_) | (have H2_ := (Option.bind_some _ _).symm.trans H; with_reducible exact H2_) | with_reducible exact H | (rw [hy182]; exact H) | exact H
  have Ny182 := Aside0.mk hy182
  clear hy182
  obtain rfl := Option.some.inj H
  go_enter Try.func39, Try.ntmps39
  go_wp2_with (first | ((with_reducible refine gate_callee (f := 32) rfl ?_); refine goesL_ (some 1) rfl rfl Try.func32 (by kernel_rfl) rfl #[.int .i64 0, .int .i64 0] rfl (by (try simp only [List.map_toArray, List.map_cons, List.map_nil]); first | done | rfl | (simp only [List.length_drop, List.length_take]; rfl)) ?_; (with_reducible refine (windhoverlaw09_at.calls 0 0 t174 t175 _ A1.out).mono ?_); rintro e w5 ⟨rfl, hb⟩; refine ⟨_, rfl, ?_⟩; have n0_ := Aside0.mk (below_step (by repeat (first | (with_reducible first | exact HB.out | apply below_alloc | apply pw_below_drewN | apply below_drew1) | exact HB.out)) hb); clear HB; have HB := n0_; clear n0_; (try clear hb); (try clear hb2); (try clear hk); (try clear hi)) | ((with_reducible refine gate_callee (f := 32) rfl ?_); refine goesL_ (some 2) rfl rfl Try.func32 (by kernel_rfl) rfl #[.int .i64 10, .int .i64 5] rfl (by (try simp only [List.map_toArray, List.map_cons, List.map_nil]); first | done | rfl | (simp only [List.length_drop, List.length_take]; rfl)) ?_; (with_reducible refine (windhoverlaw09_at.calls 10 5 t176 t177 _ A2.out).mono ?_); rintro e w6 ⟨rfl, hb⟩; refine ⟨_, rfl, ?_⟩; have n0_ := Aside0.mk (below_step (by repeat (first | (with_reducible first | exact HB.out | apply below_alloc | apply pw_below_drewN | apply below_drew1) | exact HB.out)) hb); clear HB; have HB := n0_; clear n0_; (try clear hb); (try clear hb2); (try clear hk); (try clear hi)) | ((with_reducible refine gate_callee (f := 32) rfl ?_); refine goesL_ (some 3) rfl rfl Try.func32 (by kernel_rfl) rfl #[.int .i64 0, .int .i64 10] rfl (by (try simp only [List.map_toArray, List.map_cons, List.map_nil]); first | done | rfl | (simp only [List.length_drop, List.length_take]; rfl)) ?_; (with_reducible refine (windhoverlaw09_at.calls 0 10 t178 t179 _ A3.out).mono ?_); rintro e w7 ⟨rfl, hb⟩; refine ⟨_, rfl, ?_⟩; have n0_ := Aside0.mk (below_step (by repeat (first | (with_reducible first | exact HB.out | apply below_alloc | apply pw_below_drewN | apply below_drew1) | exact HB.out)) hb); clear HB; have HB := n0_; clear n0_; (try clear hb); (try clear hb2); (try clear hk); (try clear hi)) | ((with_reducible refine gate_callee (f := 32) rfl ?_); refine goesL_ (some 4) rfl rfl Try.func32 (by kernel_rfl) rfl #[.int .i64 3, .int .i64 5] rfl (by (try simp only [List.map_toArray, List.map_cons, List.map_nil]); first | done | rfl | (simp only [List.length_drop, List.length_take]; rfl)) ?_; (with_reducible refine (windhoverlaw09_at.calls 3 5 t180 t181 _ A4.out).mono ?_); rintro e w8 ⟨rfl, hb⟩; refine ⟨_, rfl, ?_⟩; have n0_ := Aside0.mk (below_step (by repeat (first | (with_reducible first | exact HB.out | apply below_alloc | apply pw_below_drewN | apply below_drew1) | exact HB.out)) hb); clear HB; have HB := n0_; clear n0_; (try clear hb); (try clear hb2); (try clear hk); (try clear hi)) | ((with_reducible refine gate_dst (N := 5) rfl ?_); refine Kd.R_lit k23 _ 23 ?hg (N := 5) ?hd (xs := ([(⟨t174, t175⟩ : S23), (⟨t176, t177⟩ : S23), (⟨t178, t179⟩ : S23), (⟨t180, t181⟩ : S23)] : List (S23))) (inner := [.int .i64 t174, .int .i64 t175, .int .i64 t176, .int .i64 t177, .int .i64 t178, .int .i64 t179, .int .i64 t180, .int .i64 t181]) (ok := fun _ => True) (okp := fun _ => True) ?hr ?hp (fun _ hk => hk) trivial (Below.refl _ _) (Nat.le_refl _) (by simp) ?_; (case hd => rfl); (case hg => rfl); (case hr => first | (go_simp; done) | (go_simp; rfl)); (case hp => exact (Reps.c2 (show Kd.M k23 _ _ _ (⟨t174, t175⟩ : S23) [.int .i64 t174, .int .i64 t175] from (k23_mkM _ _ _ (⟨t174, t175⟩ : S23) )) (Reps.c2 (show Kd.M k23 _ _ _ (⟨t176, t177⟩ : S23) [.int .i64 t176, .int .i64 t177] from (k23_mkM _ _ _ (⟨t176, t177⟩ : S23) )) (Reps.c2 (show Kd.M k23 _ _ _ (⟨t178, t179⟩ : S23) [.int .i64 t178, .int .i64 t179] from (k23_mkM _ _ _ (⟨t178, t179⟩ : S23) )) (Reps.c2 (show Kd.M k23 _ _ _ (⟨t180, t181⟩ : S23) [.int .i64 t180, .int .i64 t181] from (k23_mkM _ _ _ (⟨t180, t181⟩ : S23) )) (Reps.none _ _)))))); intro v183 w9 ho10 hb hg_ hnew_; clear hg_ hnew_; (first | rw [← Ny182.out] at ho10 | (simp only [Int.reduceToNat] at ho10; rw [← Ny182.out] at ho10)); have n0_ := Aside0.mk (Kd.R_lower ho10 (below_size (by repeat (first | (with_reducible first | exact HB.out | apply below_alloc | apply pw_below_drewN | apply below_drew1) | exact HB.out)))); have n1_ := Aside0.mk (below_step (by repeat (first | (with_reducible first | exact HB.out | apply below_alloc | apply pw_below_drewN | apply below_drew1) | exact HB.out)) hb); clear HB; have HO184 := n0_; have HB := n1_; clear n0_ n1_; clear hb ho10))
  go_ret
  exact ⟨_, by first | rfl | (simp [errW_none, errW_some] <;> rfl) | (simp [*, errW_none, errW_some] <;> rfl), by (with_reducible repeat (first | apply Kd.R_alloc | apply Kd.R_drewN | apply Kd.R_drew)); exact HO184.out, by repeat (first | (with_reducible first | exact HB.out | apply below_alloc | apply pw_below_drewN | apply below_drew1) | exact HB.out)⟩

/-! ### windhoverlaw09_square: function 40 -/
def windhoverlaw09_square.f  : Option ((List (S23))) := (windhoverlaw09_at.f 0 0).bind fun bt185 => ((windhoverlaw09_at.f 10 0).bind fun bt187 => ((windhoverlaw09_at.f 10 10).bind fun bt189 => ((windhoverlaw09_at.f 0 10).bind fun bt191 => (some (([(⟨bt185.1, bt185.2⟩ : S23), (⟨bt187.1, bt187.2⟩ : S23), (⟨bt189.1, bt189.2⟩ : S23), (⟨bt191.1, bt191.2⟩ : S23)] : List (S23)))))))
set_option maxHeartbeats 8000000 in
set_option maxRecDepth 100000 in
theorem windhoverlaw09_square.calls  (r : List (S23)) (w : World) (h : windhoverlaw09_square.f  = some r) :
    Calls Try.prog 40 #[] w fun e w' => ∃ v0_ : Value, e = .returned (v0_) ∧ Kd.R k23 23 w' w.heap.size (fun _ => True) v0_ r ∧ Below w.heap.size w w' := by
  have HB := Aside0.mk (Below.refl w.heap.size w)
  have H : ((windhoverlaw09_at.f 0 0).bind fun bt185 => ((windhoverlaw09_at.f 10 0).bind fun bt187 => ((windhoverlaw09_at.f 10 10).bind fun bt189 => ((windhoverlaw09_at.f 0 10).bind fun bt191 => (some (([(⟨bt185.1, bt185.2⟩ : S23), (⟨bt187.1, bt187.2⟩ : S23), (⟨bt189.1, bt189.2⟩ : S23), (⟨bt191.1, bt191.2⟩ : S23)] : List (S23)))))))) = some r := h
  clear h
  replace H := Option.bind_eq_some_iff.mp H
  obtain ⟨⟨t185, t186⟩, A10, H⟩ := H
  replace H : ((windhoverlaw09_at.f 10 0).bind fun bt187 => ((windhoverlaw09_at.f 10 10).bind fun bt189 => ((windhoverlaw09_at.f 0 10).bind fun bt191 => (some (([(⟨t185, t186⟩ : S23), (⟨bt187.1, bt187.2⟩ : S23), (⟨bt189.1, bt189.2⟩ : S23), (⟨bt191.1, bt191.2⟩ : S23)] : List (S23))))))) = some r := H
  have A1 := Aside0.mk A10
  clear A10
  replace H := Option.bind_eq_some_iff.mp H
  obtain ⟨⟨t187, t188⟩, A20, H⟩ := H
  replace H : ((windhoverlaw09_at.f 10 10).bind fun bt189 => ((windhoverlaw09_at.f 0 10).bind fun bt191 => (some (([(⟨t185, t186⟩ : S23), (⟨t187, t188⟩ : S23), (⟨bt189.1, bt189.2⟩ : S23), (⟨bt191.1, bt191.2⟩ : S23)] : List (S23)))))) = some r := H
  have A2 := Aside0.mk A20
  clear A20
  replace H := Option.bind_eq_some_iff.mp H
  obtain ⟨⟨t189, t190⟩, A30, H⟩ := H
  replace H : ((windhoverlaw09_at.f 0 10).bind fun bt191 => (some (([(⟨t185, t186⟩ : S23), (⟨t187, t188⟩ : S23), (⟨t189, t190⟩ : S23), (⟨bt191.1, bt191.2⟩ : S23)] : List (S23))))) = some r := H
  have A3 := Aside0.mk A30
  clear A30
  replace H := Option.bind_eq_some_iff.mp H
  obtain ⟨⟨t191, t192⟩, A40, H⟩ := H
  replace H : (some (([(⟨t185, t186⟩ : S23), (⟨t187, t188⟩ : S23), (⟨t189, t190⟩ : S23), (⟨t191, t192⟩ : S23)] : List (S23)))) = some r := H
  have A4 := Aside0.mk A40
  clear A40
  obtain ⟨y193, hy193⟩ : ∃ y_ : List (S23), y_ = (([(⟨t185, t186⟩ : S23), (⟨t187, t188⟩ : S23), (⟨t189, t190⟩ : S23), (⟨t191, t192⟩ : S23)] : List (S23))) := ⟨_, rfl⟩
  replace H : (some y193) = some r := by first | (rw [hy193]; with_reducible exact H) | (have H2_ := (Option.bind_some _ _).symm.trans H; rw [hy193]; with_reducible exact H2_) | (have H2_ := (Option.bind_some _ _).symm.trans H; with_reducible exact H2_) | with_reducible exact H | (rw [hy193]; exact H) | exact H
  have Ny193 := Aside0.mk hy193
  clear hy193
  obtain rfl := Option.some.inj H
  go_enter Try.func40, Try.ntmps40
  go_wp2_with (first | ((with_reducible refine gate_callee (f := 32) rfl ?_); refine goesL_ (some 1) rfl rfl Try.func32 (by kernel_rfl) rfl #[.int .i64 0, .int .i64 0] rfl (by (try simp only [List.map_toArray, List.map_cons, List.map_nil]); first | done | rfl | (simp only [List.length_drop, List.length_take]; rfl)) ?_; (with_reducible refine (windhoverlaw09_at.calls 0 0 t185 t186 _ A1.out).mono ?_); rintro e w5 ⟨rfl, hb⟩; refine ⟨_, rfl, ?_⟩; have n0_ := Aside0.mk (below_step (by repeat (first | (with_reducible first | exact HB.out | apply below_alloc | apply pw_below_drewN | apply below_drew1) | exact HB.out)) hb); clear HB; have HB := n0_; clear n0_; (try clear hb); (try clear hb2); (try clear hk); (try clear hi)) | ((with_reducible refine gate_callee (f := 32) rfl ?_); refine goesL_ (some 2) rfl rfl Try.func32 (by kernel_rfl) rfl #[.int .i64 10, .int .i64 0] rfl (by (try simp only [List.map_toArray, List.map_cons, List.map_nil]); first | done | rfl | (simp only [List.length_drop, List.length_take]; rfl)) ?_; (with_reducible refine (windhoverlaw09_at.calls 10 0 t187 t188 _ A2.out).mono ?_); rintro e w6 ⟨rfl, hb⟩; refine ⟨_, rfl, ?_⟩; have n0_ := Aside0.mk (below_step (by repeat (first | (with_reducible first | exact HB.out | apply below_alloc | apply pw_below_drewN | apply below_drew1) | exact HB.out)) hb); clear HB; have HB := n0_; clear n0_; (try clear hb); (try clear hb2); (try clear hk); (try clear hi)) | ((with_reducible refine gate_callee (f := 32) rfl ?_); refine goesL_ (some 3) rfl rfl Try.func32 (by kernel_rfl) rfl #[.int .i64 10, .int .i64 10] rfl (by (try simp only [List.map_toArray, List.map_cons, List.map_nil]); first | done | rfl | (simp only [List.length_drop, List.length_take]; rfl)) ?_; (with_reducible refine (windhoverlaw09_at.calls 10 10 t189 t190 _ A3.out).mono ?_); rintro e w7 ⟨rfl, hb⟩; refine ⟨_, rfl, ?_⟩; have n0_ := Aside0.mk (below_step (by repeat (first | (with_reducible first | exact HB.out | apply below_alloc | apply pw_below_drewN | apply below_drew1) | exact HB.out)) hb); clear HB; have HB := n0_; clear n0_; (try clear hb); (try clear hb2); (try clear hk); (try clear hi)) | ((with_reducible refine gate_callee (f := 32) rfl ?_); refine goesL_ (some 4) rfl rfl Try.func32 (by kernel_rfl) rfl #[.int .i64 0, .int .i64 10] rfl (by (try simp only [List.map_toArray, List.map_cons, List.map_nil]); first | done | rfl | (simp only [List.length_drop, List.length_take]; rfl)) ?_; (with_reducible refine (windhoverlaw09_at.calls 0 10 t191 t192 _ A4.out).mono ?_); rintro e w8 ⟨rfl, hb⟩; refine ⟨_, rfl, ?_⟩; have n0_ := Aside0.mk (below_step (by repeat (first | (with_reducible first | exact HB.out | apply below_alloc | apply pw_below_drewN | apply below_drew1) | exact HB.out)) hb); clear HB; have HB := n0_; clear n0_; (try clear hb); (try clear hb2); (try clear hk); (try clear hi)) | ((with_reducible refine gate_dst (N := 5) rfl ?_); refine Kd.R_lit k23 _ 23 ?hg (N := 5) ?hd (xs := ([(⟨t185, t186⟩ : S23), (⟨t187, t188⟩ : S23), (⟨t189, t190⟩ : S23), (⟨t191, t192⟩ : S23)] : List (S23))) (inner := [.int .i64 t185, .int .i64 t186, .int .i64 t187, .int .i64 t188, .int .i64 t189, .int .i64 t190, .int .i64 t191, .int .i64 t192]) (ok := fun _ => True) (okp := fun _ => True) ?hr ?hp (fun _ hk => hk) trivial (Below.refl _ _) (Nat.le_refl _) (by simp) ?_; (case hd => rfl); (case hg => rfl); (case hr => first | (go_simp; done) | (go_simp; rfl)); (case hp => exact (Reps.c2 (show Kd.M k23 _ _ _ (⟨t185, t186⟩ : S23) [.int .i64 t185, .int .i64 t186] from (k23_mkM _ _ _ (⟨t185, t186⟩ : S23) )) (Reps.c2 (show Kd.M k23 _ _ _ (⟨t187, t188⟩ : S23) [.int .i64 t187, .int .i64 t188] from (k23_mkM _ _ _ (⟨t187, t188⟩ : S23) )) (Reps.c2 (show Kd.M k23 _ _ _ (⟨t189, t190⟩ : S23) [.int .i64 t189, .int .i64 t190] from (k23_mkM _ _ _ (⟨t189, t190⟩ : S23) )) (Reps.c2 (show Kd.M k23 _ _ _ (⟨t191, t192⟩ : S23) [.int .i64 t191, .int .i64 t192] from (k23_mkM _ _ _ (⟨t191, t192⟩ : S23) )) (Reps.none _ _)))))); intro v194 w9 ho10 hb hg_ hnew_; clear hg_ hnew_; (first | rw [← Ny193.out] at ho10 | (simp only [Int.reduceToNat] at ho10; rw [← Ny193.out] at ho10)); have n0_ := Aside0.mk (Kd.R_lower ho10 (below_size (by repeat (first | (with_reducible first | exact HB.out | apply below_alloc | apply pw_below_drewN | apply below_drew1) | exact HB.out)))); have n1_ := Aside0.mk (below_step (by repeat (first | (with_reducible first | exact HB.out | apply below_alloc | apply pw_below_drewN | apply below_drew1) | exact HB.out)) hb); clear HB; have HO195 := n0_; have HB := n1_; clear n0_ n1_; clear hb ho10))
  go_ret
  exact ⟨_, by first | rfl | (simp [errW_none, errW_some] <;> rfl) | (simp [*, errW_none, errW_some] <;> rfl), by (with_reducible repeat (first | apply Kd.R_alloc | apply Kd.R_drewN | apply Kd.R_drew)); exact HO195.out, by repeat (first | (with_reducible first | exact HB.out | apply below_alloc | apply pw_below_drewN | apply below_drew1) | exact HB.out)⟩

/-! ### windhoverlaw09_awake: function 18 -/
mutual
def windhoverlaw09_awake.j0 : Nat → Int → Bool → Int → Int → Bool → Int → Int → Bool → Option (Bool)
  | 0, _, _, _, _, _, _, _, _ => none
  | k + 1, x1, x3, x5, x7, x9, x11, x13, x15 => if x15 = true then (if x1 = 1 then (if x3 = true then (if x5 = 1 then (if x7 = (-1) then (if x9 = true then (if x11 = 200 then (if x13 = 25 then ((windhoverlaw09_square.f).bind fun t245 => (if 2 ≤ (t245.length : Int) then ((geo_Simple.f k (t245.take 2)).bind fun t252 => (windhoverlaw09_awake.j1 k (t252 == 90))) else (none))) else (windhoverlaw09_awake.j1 k false)) else (windhoverlaw09_awake.j1 k false)) else (windhoverlaw09_awake.j1 k false)) else (windhoverlaw09_awake.j1 k false)) else (windhoverlaw09_awake.j1 k false)) else (windhoverlaw09_awake.j1 k false)) else (windhoverlaw09_awake.j1 k false)) else (windhoverlaw09_awake.j1 k false)
def windhoverlaw09_awake.j1 : Nat → Bool → Option (Bool)
  | 0, _ => none
  | k + 1, x0 => some x0
end
def windhoverlaw09_awake.f (k : Nat)  : Option (Bool) := (windhoverlaw09_at.f 0 0).bind fun bt196 => ((windhoverlaw09_at.f 5 0).bind fun bt198 => ((windhoverlaw09_at.f 3 1).bind fun bt200 => ((geo_Orient.f bt196.1 bt196.2 bt198.1 bt198.2 bt200.1 bt200.2).bind fun bt202 => ((windhoverlaw09_at.f 0 0).bind fun bt204 => ((windhoverlaw09_at.f 4 4).bind fun bt206 => ((windhoverlaw09_at.f 0 4).bind fun bt208 => ((windhoverlaw09_at.f 4 0).bind fun bt210 => ((geo_Meet.f k bt204.1 bt204.2 bt206.1 bt206.2 bt208.1 bt208.2 bt210.1 bt210.2).bind fun bt212 => ((windhoverlaw09_arrow.f).bind fun t214 => ((windhoverlaw09_at.f 4 5).bind fun bt217 => ((geo_Side.f k t214 bt217.1 bt217.2).bind fun bt219 => ((windhoverlaw09_arrow.f).bind fun t221 => ((windhoverlaw09_at.f 2 5).bind fun bt224 => ((geo_Side.f k t221 bt224.1 bt224.2).bind fun bt226 => ((windhoverlaw09_at.f 0 0).bind fun bt228 => ((windhoverlaw09_at.f 10 10).bind fun bt230 => ((geo_Touches.f bt228.1 bt228.2 bt230.1 bt230.2 4 6 0 4).bind fun bt232 => ((windhoverlaw09_square.f).bind fun t234 => ((geo_Area2.f k t234).bind fun bt237 => ((windhoverlaw09_at.f 0 0).bind fun bt239 => ((windhoverlaw09_at.f 3 (-4)).bind fun bt241 => ((geo_Far.f bt239.1 bt239.2 bt241.1 bt241.2).bind fun bt243 => (if bt202.2 = 0 then (if bt212.2 = 0 then (if bt219.2 = 0 then (if bt226.2 = 0 then (if bt232.2 = 0 then (if bt237.2 = 0 then (windhoverlaw09_awake.j0 k bt202.1 bt212.1 bt219.1 bt226.1 bt232.1 bt237.1 bt243.1 (bt243.2 == 0)) else (windhoverlaw09_awake.j0 k bt202.1 bt212.1 bt219.1 bt226.1 bt232.1 bt237.1 bt243.1 false)) else (windhoverlaw09_awake.j0 k bt202.1 bt212.1 bt219.1 bt226.1 bt232.1 bt237.1 bt243.1 false)) else (windhoverlaw09_awake.j0 k bt202.1 bt212.1 bt219.1 bt226.1 bt232.1 bt237.1 bt243.1 false)) else (windhoverlaw09_awake.j0 k bt202.1 bt212.1 bt219.1 bt226.1 bt232.1 bt237.1 bt243.1 false)) else (windhoverlaw09_awake.j0 k bt202.1 bt212.1 bt219.1 bt226.1 bt232.1 bt237.1 bt243.1 false)) else (windhoverlaw09_awake.j0 k bt202.1 bt212.1 bt219.1 bt226.1 bt232.1 bt237.1 bt243.1 false))))))))))))))))))))))))
theorem windhoverlaw09_awake.mono_l : ∀ k, (∀ y0 y1 y2 y3 y4 y5 y6 y7, LeO (windhoverlaw09_awake.j0 k y0 y1 y2 y3 y4 y5 y6 y7) (windhoverlaw09_awake.j0 (k + 1) y0 y1 y2 y3 y4 y5 y6 y7)) ∧ (∀ y0, LeO (windhoverlaw09_awake.j1 k y0) (windhoverlaw09_awake.j1 (k + 1) y0))
  | 0 => ⟨fun _ _ _ _ _ _ _ _ r h => by simp [windhoverlaw09_awake.j0] at h, fun _ r h => by simp [windhoverlaw09_awake.j1] at h⟩
  | k + 1 => by
    obtain ⟨ih0, ih1⟩ := windhoverlaw09_awake.mono_l k
    refine ⟨?_, ?_⟩
    · intro y0 y1 y2 y3 y4 y5 y6 y7
      unfold windhoverlaw09_awake.j0
      repeat' first
      | (with_reducible exact ih0 _ _ _ _ _ _ _ _)
      | (with_reducible exact ih1 _)
      | (with_reducible exact geo_Area2.mono _ _)
      | (with_reducible exact geo_Meet.mono _ _ _ _ _ _ _ _ _)
      | (with_reducible exact geo_Side.mono _ _ _ _)
      | (with_reducible exact geo_Simple.mono _ _)
      | (with_reducible exact LeO.refl _)
      | (with_reducible exact LeO.none _)
      | (with_reducible refine LeO.ite ?_ ?_)
      | (with_reducible refine LeO.bind ?_ (fun _ => ?_))
      | exact ih0 _ _ _ _ _ _ _ _
      | exact ih1 _
      | exact geo_Area2.mono _ _
      | exact geo_Meet.mono _ _ _ _ _ _ _ _ _
      | exact geo_Side.mono _ _ _ _
      | exact geo_Simple.mono _ _
      | exact LeO.none _
      | refine LeO.ite ?_ ?_
      | refine LeO.bind ?_ (fun _ => ?_)
    · intro y0
      unfold windhoverlaw09_awake.j1
      repeat' first
      | (with_reducible exact ih0 _ _ _ _ _ _ _ _)
      | (with_reducible exact ih1 _)
      | (with_reducible exact geo_Area2.mono _ _)
      | (with_reducible exact geo_Meet.mono _ _ _ _ _ _ _ _ _)
      | (with_reducible exact geo_Side.mono _ _ _ _)
      | (with_reducible exact geo_Simple.mono _ _)
      | (with_reducible exact LeO.refl _)
      | (with_reducible exact LeO.none _)
      | (with_reducible refine LeO.ite ?_ ?_)
      | (with_reducible refine LeO.bind ?_ (fun _ => ?_))
      | exact ih0 _ _ _ _ _ _ _ _
      | exact ih1 _
      | exact geo_Area2.mono _ _
      | exact geo_Meet.mono _ _ _ _ _ _ _ _ _
      | exact geo_Side.mono _ _ _ _
      | exact geo_Simple.mono _ _
      | exact LeO.none _
      | refine LeO.ite ?_ ?_
      | refine LeO.bind ?_ (fun _ => ?_)
theorem windhoverlaw09_awake.mono : ∀ k, LeO (windhoverlaw09_awake.f k ) (windhoverlaw09_awake.f (k + 1) ) := by
  intro  k
  obtain ⟨ih0, ih1⟩ := windhoverlaw09_awake.mono_l k
  unfold windhoverlaw09_awake.f
  repeat' first
      | (with_reducible exact ih0 _ _ _ _ _ _ _ _)
      | (with_reducible exact ih1 _)
      | (with_reducible exact geo_Area2.mono _ _)
      | (with_reducible exact geo_Meet.mono _ _ _ _ _ _ _ _ _)
      | (with_reducible exact geo_Side.mono _ _ _ _)
      | (with_reducible exact geo_Simple.mono _ _)
      | (with_reducible exact LeO.refl _)
      | (with_reducible exact LeO.none _)
      | (with_reducible refine LeO.ite ?_ ?_)
      | (with_reducible refine LeO.bind ?_ (fun _ => ?_))
      | exact ih0 _ _ _ _ _ _ _ _
      | exact ih1 _
      | exact geo_Area2.mono _ _
      | exact geo_Meet.mono _ _ _ _ _ _ _ _ _
      | exact geo_Side.mono _ _ _ _
      | exact geo_Simple.mono _ _
      | exact LeO.none _
      | refine LeO.ite ?_ ?_
      | refine LeO.bind ?_ (fun _ => ?_)
set_option maxHeartbeats 8000000 in
set_option maxRecDepth 100000 in
theorem windhoverlaw09_awake.calls (k : Nat)  (r : Bool) (w : World) (h : windhoverlaw09_awake.f k  = some r) :
    Calls Try.prog 18 #[] w fun e w' => e = .returned (.bool r) ∧ Below w.heap.size w w' := by
  have hu44 := Try.underlying44
  have HB := Aside0.mk (Below.refl w.heap.size w)
  have H : ((windhoverlaw09_at.f 0 0).bind fun bt196 => ((windhoverlaw09_at.f 5 0).bind fun bt198 => ((windhoverlaw09_at.f 3 1).bind fun bt200 => ((geo_Orient.f bt196.1 bt196.2 bt198.1 bt198.2 bt200.1 bt200.2).bind fun bt202 => ((windhoverlaw09_at.f 0 0).bind fun bt204 => ((windhoverlaw09_at.f 4 4).bind fun bt206 => ((windhoverlaw09_at.f 0 4).bind fun bt208 => ((windhoverlaw09_at.f 4 0).bind fun bt210 => ((geo_Meet.f k bt204.1 bt204.2 bt206.1 bt206.2 bt208.1 bt208.2 bt210.1 bt210.2).bind fun bt212 => ((windhoverlaw09_arrow.f).bind fun t214 => ((windhoverlaw09_at.f 4 5).bind fun bt217 => ((geo_Side.f k t214 bt217.1 bt217.2).bind fun bt219 => ((windhoverlaw09_arrow.f).bind fun t221 => ((windhoverlaw09_at.f 2 5).bind fun bt224 => ((geo_Side.f k t221 bt224.1 bt224.2).bind fun bt226 => ((windhoverlaw09_at.f 0 0).bind fun bt228 => ((windhoverlaw09_at.f 10 10).bind fun bt230 => ((geo_Touches.f bt228.1 bt228.2 bt230.1 bt230.2 4 6 0 4).bind fun bt232 => ((windhoverlaw09_square.f).bind fun t234 => ((geo_Area2.f k t234).bind fun bt237 => ((windhoverlaw09_at.f 0 0).bind fun bt239 => ((windhoverlaw09_at.f 3 (-4)).bind fun bt241 => ((geo_Far.f bt239.1 bt239.2 bt241.1 bt241.2).bind fun bt243 => (if bt202.2 = 0 then (if bt212.2 = 0 then (if bt219.2 = 0 then (if bt226.2 = 0 then (if bt232.2 = 0 then (if bt237.2 = 0 then (windhoverlaw09_awake.j0 k bt202.1 bt212.1 bt219.1 bt226.1 bt232.1 bt237.1 bt243.1 (bt243.2 == 0)) else (windhoverlaw09_awake.j0 k bt202.1 bt212.1 bt219.1 bt226.1 bt232.1 bt237.1 bt243.1 false)) else (windhoverlaw09_awake.j0 k bt202.1 bt212.1 bt219.1 bt226.1 bt232.1 bt237.1 bt243.1 false)) else (windhoverlaw09_awake.j0 k bt202.1 bt212.1 bt219.1 bt226.1 bt232.1 bt237.1 bt243.1 false)) else (windhoverlaw09_awake.j0 k bt202.1 bt212.1 bt219.1 bt226.1 bt232.1 bt237.1 bt243.1 false)) else (windhoverlaw09_awake.j0 k bt202.1 bt212.1 bt219.1 bt226.1 bt232.1 bt237.1 bt243.1 false)) else (windhoverlaw09_awake.j0 k bt202.1 bt212.1 bt219.1 bt226.1 bt232.1 bt237.1 bt243.1 false))))))))))))))))))))))))) = some r := h
  clear h
  replace H := Option.bind_eq_some_iff.mp H
  obtain ⟨⟨t196, t197⟩, A10, H⟩ := H
  replace H : ((windhoverlaw09_at.f 5 0).bind fun bt198 => ((windhoverlaw09_at.f 3 1).bind fun bt200 => ((geo_Orient.f t196 t197 bt198.1 bt198.2 bt200.1 bt200.2).bind fun bt202 => ((windhoverlaw09_at.f 0 0).bind fun bt204 => ((windhoverlaw09_at.f 4 4).bind fun bt206 => ((windhoverlaw09_at.f 0 4).bind fun bt208 => ((windhoverlaw09_at.f 4 0).bind fun bt210 => ((geo_Meet.f k bt204.1 bt204.2 bt206.1 bt206.2 bt208.1 bt208.2 bt210.1 bt210.2).bind fun bt212 => ((windhoverlaw09_arrow.f).bind fun t214 => ((windhoverlaw09_at.f 4 5).bind fun bt217 => ((geo_Side.f k t214 bt217.1 bt217.2).bind fun bt219 => ((windhoverlaw09_arrow.f).bind fun t221 => ((windhoverlaw09_at.f 2 5).bind fun bt224 => ((geo_Side.f k t221 bt224.1 bt224.2).bind fun bt226 => ((windhoverlaw09_at.f 0 0).bind fun bt228 => ((windhoverlaw09_at.f 10 10).bind fun bt230 => ((geo_Touches.f bt228.1 bt228.2 bt230.1 bt230.2 4 6 0 4).bind fun bt232 => ((windhoverlaw09_square.f).bind fun t234 => ((geo_Area2.f k t234).bind fun bt237 => ((windhoverlaw09_at.f 0 0).bind fun bt239 => ((windhoverlaw09_at.f 3 (-4)).bind fun bt241 => ((geo_Far.f bt239.1 bt239.2 bt241.1 bt241.2).bind fun bt243 => (if bt202.2 = 0 then (if bt212.2 = 0 then (if bt219.2 = 0 then (if bt226.2 = 0 then (if bt232.2 = 0 then (if bt237.2 = 0 then (windhoverlaw09_awake.j0 k bt202.1 bt212.1 bt219.1 bt226.1 bt232.1 bt237.1 bt243.1 (bt243.2 == 0)) else (windhoverlaw09_awake.j0 k bt202.1 bt212.1 bt219.1 bt226.1 bt232.1 bt237.1 bt243.1 false)) else (windhoverlaw09_awake.j0 k bt202.1 bt212.1 bt219.1 bt226.1 bt232.1 bt237.1 bt243.1 false)) else (windhoverlaw09_awake.j0 k bt202.1 bt212.1 bt219.1 bt226.1 bt232.1 bt237.1 bt243.1 false)) else (windhoverlaw09_awake.j0 k bt202.1 bt212.1 bt219.1 bt226.1 bt232.1 bt237.1 bt243.1 false)) else (windhoverlaw09_awake.j0 k bt202.1 bt212.1 bt219.1 bt226.1 bt232.1 bt237.1 bt243.1 false)) else (windhoverlaw09_awake.j0 k bt202.1 bt212.1 bt219.1 bt226.1 bt232.1 bt237.1 bt243.1 false)))))))))))))))))))))))) = some r := H
  have A1 := Aside0.mk A10
  clear A10
  replace H := Option.bind_eq_some_iff.mp H
  obtain ⟨⟨t198, t199⟩, A20, H⟩ := H
  replace H : ((windhoverlaw09_at.f 3 1).bind fun bt200 => ((geo_Orient.f t196 t197 t198 t199 bt200.1 bt200.2).bind fun bt202 => ((windhoverlaw09_at.f 0 0).bind fun bt204 => ((windhoverlaw09_at.f 4 4).bind fun bt206 => ((windhoverlaw09_at.f 0 4).bind fun bt208 => ((windhoverlaw09_at.f 4 0).bind fun bt210 => ((geo_Meet.f k bt204.1 bt204.2 bt206.1 bt206.2 bt208.1 bt208.2 bt210.1 bt210.2).bind fun bt212 => ((windhoverlaw09_arrow.f).bind fun t214 => ((windhoverlaw09_at.f 4 5).bind fun bt217 => ((geo_Side.f k t214 bt217.1 bt217.2).bind fun bt219 => ((windhoverlaw09_arrow.f).bind fun t221 => ((windhoverlaw09_at.f 2 5).bind fun bt224 => ((geo_Side.f k t221 bt224.1 bt224.2).bind fun bt226 => ((windhoverlaw09_at.f 0 0).bind fun bt228 => ((windhoverlaw09_at.f 10 10).bind fun bt230 => ((geo_Touches.f bt228.1 bt228.2 bt230.1 bt230.2 4 6 0 4).bind fun bt232 => ((windhoverlaw09_square.f).bind fun t234 => ((geo_Area2.f k t234).bind fun bt237 => ((windhoverlaw09_at.f 0 0).bind fun bt239 => ((windhoverlaw09_at.f 3 (-4)).bind fun bt241 => ((geo_Far.f bt239.1 bt239.2 bt241.1 bt241.2).bind fun bt243 => (if bt202.2 = 0 then (if bt212.2 = 0 then (if bt219.2 = 0 then (if bt226.2 = 0 then (if bt232.2 = 0 then (if bt237.2 = 0 then (windhoverlaw09_awake.j0 k bt202.1 bt212.1 bt219.1 bt226.1 bt232.1 bt237.1 bt243.1 (bt243.2 == 0)) else (windhoverlaw09_awake.j0 k bt202.1 bt212.1 bt219.1 bt226.1 bt232.1 bt237.1 bt243.1 false)) else (windhoverlaw09_awake.j0 k bt202.1 bt212.1 bt219.1 bt226.1 bt232.1 bt237.1 bt243.1 false)) else (windhoverlaw09_awake.j0 k bt202.1 bt212.1 bt219.1 bt226.1 bt232.1 bt237.1 bt243.1 false)) else (windhoverlaw09_awake.j0 k bt202.1 bt212.1 bt219.1 bt226.1 bt232.1 bt237.1 bt243.1 false)) else (windhoverlaw09_awake.j0 k bt202.1 bt212.1 bt219.1 bt226.1 bt232.1 bt237.1 bt243.1 false)) else (windhoverlaw09_awake.j0 k bt202.1 bt212.1 bt219.1 bt226.1 bt232.1 bt237.1 bt243.1 false))))))))))))))))))))))) = some r := H
  have A2 := Aside0.mk A20
  clear A20
  replace H := Option.bind_eq_some_iff.mp H
  obtain ⟨⟨t200, t201⟩, A30, H⟩ := H
  replace H : ((geo_Orient.f t196 t197 t198 t199 t200 t201).bind fun bt202 => ((windhoverlaw09_at.f 0 0).bind fun bt204 => ((windhoverlaw09_at.f 4 4).bind fun bt206 => ((windhoverlaw09_at.f 0 4).bind fun bt208 => ((windhoverlaw09_at.f 4 0).bind fun bt210 => ((geo_Meet.f k bt204.1 bt204.2 bt206.1 bt206.2 bt208.1 bt208.2 bt210.1 bt210.2).bind fun bt212 => ((windhoverlaw09_arrow.f).bind fun t214 => ((windhoverlaw09_at.f 4 5).bind fun bt217 => ((geo_Side.f k t214 bt217.1 bt217.2).bind fun bt219 => ((windhoverlaw09_arrow.f).bind fun t221 => ((windhoverlaw09_at.f 2 5).bind fun bt224 => ((geo_Side.f k t221 bt224.1 bt224.2).bind fun bt226 => ((windhoverlaw09_at.f 0 0).bind fun bt228 => ((windhoverlaw09_at.f 10 10).bind fun bt230 => ((geo_Touches.f bt228.1 bt228.2 bt230.1 bt230.2 4 6 0 4).bind fun bt232 => ((windhoverlaw09_square.f).bind fun t234 => ((geo_Area2.f k t234).bind fun bt237 => ((windhoverlaw09_at.f 0 0).bind fun bt239 => ((windhoverlaw09_at.f 3 (-4)).bind fun bt241 => ((geo_Far.f bt239.1 bt239.2 bt241.1 bt241.2).bind fun bt243 => (if bt202.2 = 0 then (if bt212.2 = 0 then (if bt219.2 = 0 then (if bt226.2 = 0 then (if bt232.2 = 0 then (if bt237.2 = 0 then (windhoverlaw09_awake.j0 k bt202.1 bt212.1 bt219.1 bt226.1 bt232.1 bt237.1 bt243.1 (bt243.2 == 0)) else (windhoverlaw09_awake.j0 k bt202.1 bt212.1 bt219.1 bt226.1 bt232.1 bt237.1 bt243.1 false)) else (windhoverlaw09_awake.j0 k bt202.1 bt212.1 bt219.1 bt226.1 bt232.1 bt237.1 bt243.1 false)) else (windhoverlaw09_awake.j0 k bt202.1 bt212.1 bt219.1 bt226.1 bt232.1 bt237.1 bt243.1 false)) else (windhoverlaw09_awake.j0 k bt202.1 bt212.1 bt219.1 bt226.1 bt232.1 bt237.1 bt243.1 false)) else (windhoverlaw09_awake.j0 k bt202.1 bt212.1 bt219.1 bt226.1 bt232.1 bt237.1 bt243.1 false)) else (windhoverlaw09_awake.j0 k bt202.1 bt212.1 bt219.1 bt226.1 bt232.1 bt237.1 bt243.1 false)))))))))))))))))))))) = some r := H
  have A3 := Aside0.mk A30
  clear A30
  replace H := Option.bind_eq_some_iff.mp H
  obtain ⟨⟨t202, t203⟩, A40, H⟩ := H
  replace H : ((windhoverlaw09_at.f 0 0).bind fun bt204 => ((windhoverlaw09_at.f 4 4).bind fun bt206 => ((windhoverlaw09_at.f 0 4).bind fun bt208 => ((windhoverlaw09_at.f 4 0).bind fun bt210 => ((geo_Meet.f k bt204.1 bt204.2 bt206.1 bt206.2 bt208.1 bt208.2 bt210.1 bt210.2).bind fun bt212 => ((windhoverlaw09_arrow.f).bind fun t214 => ((windhoverlaw09_at.f 4 5).bind fun bt217 => ((geo_Side.f k t214 bt217.1 bt217.2).bind fun bt219 => ((windhoverlaw09_arrow.f).bind fun t221 => ((windhoverlaw09_at.f 2 5).bind fun bt224 => ((geo_Side.f k t221 bt224.1 bt224.2).bind fun bt226 => ((windhoverlaw09_at.f 0 0).bind fun bt228 => ((windhoverlaw09_at.f 10 10).bind fun bt230 => ((geo_Touches.f bt228.1 bt228.2 bt230.1 bt230.2 4 6 0 4).bind fun bt232 => ((windhoverlaw09_square.f).bind fun t234 => ((geo_Area2.f k t234).bind fun bt237 => ((windhoverlaw09_at.f 0 0).bind fun bt239 => ((windhoverlaw09_at.f 3 (-4)).bind fun bt241 => ((geo_Far.f bt239.1 bt239.2 bt241.1 bt241.2).bind fun bt243 => (if t203 = 0 then (if bt212.2 = 0 then (if bt219.2 = 0 then (if bt226.2 = 0 then (if bt232.2 = 0 then (if bt237.2 = 0 then (windhoverlaw09_awake.j0 k t202 bt212.1 bt219.1 bt226.1 bt232.1 bt237.1 bt243.1 (bt243.2 == 0)) else (windhoverlaw09_awake.j0 k t202 bt212.1 bt219.1 bt226.1 bt232.1 bt237.1 bt243.1 false)) else (windhoverlaw09_awake.j0 k t202 bt212.1 bt219.1 bt226.1 bt232.1 bt237.1 bt243.1 false)) else (windhoverlaw09_awake.j0 k t202 bt212.1 bt219.1 bt226.1 bt232.1 bt237.1 bt243.1 false)) else (windhoverlaw09_awake.j0 k t202 bt212.1 bt219.1 bt226.1 bt232.1 bt237.1 bt243.1 false)) else (windhoverlaw09_awake.j0 k t202 bt212.1 bt219.1 bt226.1 bt232.1 bt237.1 bt243.1 false)) else (windhoverlaw09_awake.j0 k t202 bt212.1 bt219.1 bt226.1 bt232.1 bt237.1 bt243.1 false))))))))))))))))))))) = some r := H
  have A4 := Aside0.mk A40
  clear A40
  replace H := Option.bind_eq_some_iff.mp H
  obtain ⟨⟨t204, t205⟩, A50, H⟩ := H
  replace H : ((windhoverlaw09_at.f 4 4).bind fun bt206 => ((windhoverlaw09_at.f 0 4).bind fun bt208 => ((windhoverlaw09_at.f 4 0).bind fun bt210 => ((geo_Meet.f k t204 t205 bt206.1 bt206.2 bt208.1 bt208.2 bt210.1 bt210.2).bind fun bt212 => ((windhoverlaw09_arrow.f).bind fun t214 => ((windhoverlaw09_at.f 4 5).bind fun bt217 => ((geo_Side.f k t214 bt217.1 bt217.2).bind fun bt219 => ((windhoverlaw09_arrow.f).bind fun t221 => ((windhoverlaw09_at.f 2 5).bind fun bt224 => ((geo_Side.f k t221 bt224.1 bt224.2).bind fun bt226 => ((windhoverlaw09_at.f 0 0).bind fun bt228 => ((windhoverlaw09_at.f 10 10).bind fun bt230 => ((geo_Touches.f bt228.1 bt228.2 bt230.1 bt230.2 4 6 0 4).bind fun bt232 => ((windhoverlaw09_square.f).bind fun t234 => ((geo_Area2.f k t234).bind fun bt237 => ((windhoverlaw09_at.f 0 0).bind fun bt239 => ((windhoverlaw09_at.f 3 (-4)).bind fun bt241 => ((geo_Far.f bt239.1 bt239.2 bt241.1 bt241.2).bind fun bt243 => (if t203 = 0 then (if bt212.2 = 0 then (if bt219.2 = 0 then (if bt226.2 = 0 then (if bt232.2 = 0 then (if bt237.2 = 0 then (windhoverlaw09_awake.j0 k t202 bt212.1 bt219.1 bt226.1 bt232.1 bt237.1 bt243.1 (bt243.2 == 0)) else (windhoverlaw09_awake.j0 k t202 bt212.1 bt219.1 bt226.1 bt232.1 bt237.1 bt243.1 false)) else (windhoverlaw09_awake.j0 k t202 bt212.1 bt219.1 bt226.1 bt232.1 bt237.1 bt243.1 false)) else (windhoverlaw09_awake.j0 k t202 bt212.1 bt219.1 bt226.1 bt232.1 bt237.1 bt243.1 false)) else (windhoverlaw09_awake.j0 k t202 bt212.1 bt219.1 bt226.1 bt232.1 bt237.1 bt243.1 false)) else (windhoverlaw09_awake.j0 k t202 bt212.1 bt219.1 bt226.1 bt232.1 bt237.1 bt243.1 false)) else (windhoverlaw09_awake.j0 k t202 bt212.1 bt219.1 bt226.1 bt232.1 bt237.1 bt243.1 false)))))))))))))))))))) = some r := H
  have A5 := Aside0.mk A50
  clear A50
  replace H := Option.bind_eq_some_iff.mp H
  obtain ⟨⟨t206, t207⟩, A60, H⟩ := H
  replace H : ((windhoverlaw09_at.f 0 4).bind fun bt208 => ((windhoverlaw09_at.f 4 0).bind fun bt210 => ((geo_Meet.f k t204 t205 t206 t207 bt208.1 bt208.2 bt210.1 bt210.2).bind fun bt212 => ((windhoverlaw09_arrow.f).bind fun t214 => ((windhoverlaw09_at.f 4 5).bind fun bt217 => ((geo_Side.f k t214 bt217.1 bt217.2).bind fun bt219 => ((windhoverlaw09_arrow.f).bind fun t221 => ((windhoverlaw09_at.f 2 5).bind fun bt224 => ((geo_Side.f k t221 bt224.1 bt224.2).bind fun bt226 => ((windhoverlaw09_at.f 0 0).bind fun bt228 => ((windhoverlaw09_at.f 10 10).bind fun bt230 => ((geo_Touches.f bt228.1 bt228.2 bt230.1 bt230.2 4 6 0 4).bind fun bt232 => ((windhoverlaw09_square.f).bind fun t234 => ((geo_Area2.f k t234).bind fun bt237 => ((windhoverlaw09_at.f 0 0).bind fun bt239 => ((windhoverlaw09_at.f 3 (-4)).bind fun bt241 => ((geo_Far.f bt239.1 bt239.2 bt241.1 bt241.2).bind fun bt243 => (if t203 = 0 then (if bt212.2 = 0 then (if bt219.2 = 0 then (if bt226.2 = 0 then (if bt232.2 = 0 then (if bt237.2 = 0 then (windhoverlaw09_awake.j0 k t202 bt212.1 bt219.1 bt226.1 bt232.1 bt237.1 bt243.1 (bt243.2 == 0)) else (windhoverlaw09_awake.j0 k t202 bt212.1 bt219.1 bt226.1 bt232.1 bt237.1 bt243.1 false)) else (windhoverlaw09_awake.j0 k t202 bt212.1 bt219.1 bt226.1 bt232.1 bt237.1 bt243.1 false)) else (windhoverlaw09_awake.j0 k t202 bt212.1 bt219.1 bt226.1 bt232.1 bt237.1 bt243.1 false)) else (windhoverlaw09_awake.j0 k t202 bt212.1 bt219.1 bt226.1 bt232.1 bt237.1 bt243.1 false)) else (windhoverlaw09_awake.j0 k t202 bt212.1 bt219.1 bt226.1 bt232.1 bt237.1 bt243.1 false)) else (windhoverlaw09_awake.j0 k t202 bt212.1 bt219.1 bt226.1 bt232.1 bt237.1 bt243.1 false))))))))))))))))))) = some r := H
  have A6 := Aside0.mk A60
  clear A60
  replace H := Option.bind_eq_some_iff.mp H
  obtain ⟨⟨t208, t209⟩, A70, H⟩ := H
  replace H : ((windhoverlaw09_at.f 4 0).bind fun bt210 => ((geo_Meet.f k t204 t205 t206 t207 t208 t209 bt210.1 bt210.2).bind fun bt212 => ((windhoverlaw09_arrow.f).bind fun t214 => ((windhoverlaw09_at.f 4 5).bind fun bt217 => ((geo_Side.f k t214 bt217.1 bt217.2).bind fun bt219 => ((windhoverlaw09_arrow.f).bind fun t221 => ((windhoverlaw09_at.f 2 5).bind fun bt224 => ((geo_Side.f k t221 bt224.1 bt224.2).bind fun bt226 => ((windhoverlaw09_at.f 0 0).bind fun bt228 => ((windhoverlaw09_at.f 10 10).bind fun bt230 => ((geo_Touches.f bt228.1 bt228.2 bt230.1 bt230.2 4 6 0 4).bind fun bt232 => ((windhoverlaw09_square.f).bind fun t234 => ((geo_Area2.f k t234).bind fun bt237 => ((windhoverlaw09_at.f 0 0).bind fun bt239 => ((windhoverlaw09_at.f 3 (-4)).bind fun bt241 => ((geo_Far.f bt239.1 bt239.2 bt241.1 bt241.2).bind fun bt243 => (if t203 = 0 then (if bt212.2 = 0 then (if bt219.2 = 0 then (if bt226.2 = 0 then (if bt232.2 = 0 then (if bt237.2 = 0 then (windhoverlaw09_awake.j0 k t202 bt212.1 bt219.1 bt226.1 bt232.1 bt237.1 bt243.1 (bt243.2 == 0)) else (windhoverlaw09_awake.j0 k t202 bt212.1 bt219.1 bt226.1 bt232.1 bt237.1 bt243.1 false)) else (windhoverlaw09_awake.j0 k t202 bt212.1 bt219.1 bt226.1 bt232.1 bt237.1 bt243.1 false)) else (windhoverlaw09_awake.j0 k t202 bt212.1 bt219.1 bt226.1 bt232.1 bt237.1 bt243.1 false)) else (windhoverlaw09_awake.j0 k t202 bt212.1 bt219.1 bt226.1 bt232.1 bt237.1 bt243.1 false)) else (windhoverlaw09_awake.j0 k t202 bt212.1 bt219.1 bt226.1 bt232.1 bt237.1 bt243.1 false)) else (windhoverlaw09_awake.j0 k t202 bt212.1 bt219.1 bt226.1 bt232.1 bt237.1 bt243.1 false)))))))))))))))))) = some r := H
  have A7 := Aside0.mk A70
  clear A70
  replace H := Option.bind_eq_some_iff.mp H
  obtain ⟨⟨t210, t211⟩, A80, H⟩ := H
  replace H : ((geo_Meet.f k t204 t205 t206 t207 t208 t209 t210 t211).bind fun bt212 => ((windhoverlaw09_arrow.f).bind fun t214 => ((windhoverlaw09_at.f 4 5).bind fun bt217 => ((geo_Side.f k t214 bt217.1 bt217.2).bind fun bt219 => ((windhoverlaw09_arrow.f).bind fun t221 => ((windhoverlaw09_at.f 2 5).bind fun bt224 => ((geo_Side.f k t221 bt224.1 bt224.2).bind fun bt226 => ((windhoverlaw09_at.f 0 0).bind fun bt228 => ((windhoverlaw09_at.f 10 10).bind fun bt230 => ((geo_Touches.f bt228.1 bt228.2 bt230.1 bt230.2 4 6 0 4).bind fun bt232 => ((windhoverlaw09_square.f).bind fun t234 => ((geo_Area2.f k t234).bind fun bt237 => ((windhoverlaw09_at.f 0 0).bind fun bt239 => ((windhoverlaw09_at.f 3 (-4)).bind fun bt241 => ((geo_Far.f bt239.1 bt239.2 bt241.1 bt241.2).bind fun bt243 => (if t203 = 0 then (if bt212.2 = 0 then (if bt219.2 = 0 then (if bt226.2 = 0 then (if bt232.2 = 0 then (if bt237.2 = 0 then (windhoverlaw09_awake.j0 k t202 bt212.1 bt219.1 bt226.1 bt232.1 bt237.1 bt243.1 (bt243.2 == 0)) else (windhoverlaw09_awake.j0 k t202 bt212.1 bt219.1 bt226.1 bt232.1 bt237.1 bt243.1 false)) else (windhoverlaw09_awake.j0 k t202 bt212.1 bt219.1 bt226.1 bt232.1 bt237.1 bt243.1 false)) else (windhoverlaw09_awake.j0 k t202 bt212.1 bt219.1 bt226.1 bt232.1 bt237.1 bt243.1 false)) else (windhoverlaw09_awake.j0 k t202 bt212.1 bt219.1 bt226.1 bt232.1 bt237.1 bt243.1 false)) else (windhoverlaw09_awake.j0 k t202 bt212.1 bt219.1 bt226.1 bt232.1 bt237.1 bt243.1 false)) else (windhoverlaw09_awake.j0 k t202 bt212.1 bt219.1 bt226.1 bt232.1 bt237.1 bt243.1 false))))))))))))))))) = some r := H
  have A8 := Aside0.mk A80
  clear A80
  replace H := Option.bind_eq_some_iff.mp H
  obtain ⟨⟨t212, t213⟩, A90, H⟩ := H
  replace H : ((windhoverlaw09_arrow.f).bind fun t214 => ((windhoverlaw09_at.f 4 5).bind fun bt217 => ((geo_Side.f k t214 bt217.1 bt217.2).bind fun bt219 => ((windhoverlaw09_arrow.f).bind fun t221 => ((windhoverlaw09_at.f 2 5).bind fun bt224 => ((geo_Side.f k t221 bt224.1 bt224.2).bind fun bt226 => ((windhoverlaw09_at.f 0 0).bind fun bt228 => ((windhoverlaw09_at.f 10 10).bind fun bt230 => ((geo_Touches.f bt228.1 bt228.2 bt230.1 bt230.2 4 6 0 4).bind fun bt232 => ((windhoverlaw09_square.f).bind fun t234 => ((geo_Area2.f k t234).bind fun bt237 => ((windhoverlaw09_at.f 0 0).bind fun bt239 => ((windhoverlaw09_at.f 3 (-4)).bind fun bt241 => ((geo_Far.f bt239.1 bt239.2 bt241.1 bt241.2).bind fun bt243 => (if t203 = 0 then (if t213 = 0 then (if bt219.2 = 0 then (if bt226.2 = 0 then (if bt232.2 = 0 then (if bt237.2 = 0 then (windhoverlaw09_awake.j0 k t202 t212 bt219.1 bt226.1 bt232.1 bt237.1 bt243.1 (bt243.2 == 0)) else (windhoverlaw09_awake.j0 k t202 t212 bt219.1 bt226.1 bt232.1 bt237.1 bt243.1 false)) else (windhoverlaw09_awake.j0 k t202 t212 bt219.1 bt226.1 bt232.1 bt237.1 bt243.1 false)) else (windhoverlaw09_awake.j0 k t202 t212 bt219.1 bt226.1 bt232.1 bt237.1 bt243.1 false)) else (windhoverlaw09_awake.j0 k t202 t212 bt219.1 bt226.1 bt232.1 bt237.1 bt243.1 false)) else (windhoverlaw09_awake.j0 k t202 t212 bt219.1 bt226.1 bt232.1 bt237.1 bt243.1 false)) else (windhoverlaw09_awake.j0 k t202 t212 bt219.1 bt226.1 bt232.1 bt237.1 bt243.1 false)))))))))))))))) = some r := H
  have A9 := Aside0.mk A90
  clear A90
  replace H := Option.bind_eq_some_iff.mp H
  obtain ⟨t214, A100, H⟩ := H
  replace H : ((windhoverlaw09_at.f 4 5).bind fun bt217 => ((geo_Side.f k t214 bt217.1 bt217.2).bind fun bt219 => ((windhoverlaw09_arrow.f).bind fun t221 => ((windhoverlaw09_at.f 2 5).bind fun bt224 => ((geo_Side.f k t221 bt224.1 bt224.2).bind fun bt226 => ((windhoverlaw09_at.f 0 0).bind fun bt228 => ((windhoverlaw09_at.f 10 10).bind fun bt230 => ((geo_Touches.f bt228.1 bt228.2 bt230.1 bt230.2 4 6 0 4).bind fun bt232 => ((windhoverlaw09_square.f).bind fun t234 => ((geo_Area2.f k t234).bind fun bt237 => ((windhoverlaw09_at.f 0 0).bind fun bt239 => ((windhoverlaw09_at.f 3 (-4)).bind fun bt241 => ((geo_Far.f bt239.1 bt239.2 bt241.1 bt241.2).bind fun bt243 => (if t203 = 0 then (if t213 = 0 then (if bt219.2 = 0 then (if bt226.2 = 0 then (if bt232.2 = 0 then (if bt237.2 = 0 then (windhoverlaw09_awake.j0 k t202 t212 bt219.1 bt226.1 bt232.1 bt237.1 bt243.1 (bt243.2 == 0)) else (windhoverlaw09_awake.j0 k t202 t212 bt219.1 bt226.1 bt232.1 bt237.1 bt243.1 false)) else (windhoverlaw09_awake.j0 k t202 t212 bt219.1 bt226.1 bt232.1 bt237.1 bt243.1 false)) else (windhoverlaw09_awake.j0 k t202 t212 bt219.1 bt226.1 bt232.1 bt237.1 bt243.1 false)) else (windhoverlaw09_awake.j0 k t202 t212 bt219.1 bt226.1 bt232.1 bt237.1 bt243.1 false)) else (windhoverlaw09_awake.j0 k t202 t212 bt219.1 bt226.1 bt232.1 bt237.1 bt243.1 false)) else (windhoverlaw09_awake.j0 k t202 t212 bt219.1 bt226.1 bt232.1 bt237.1 bt243.1 false))))))))))))))) = some r := H
  have A10 := Aside0.mk A100
  clear A100
  replace H := Option.bind_eq_some_iff.mp H
  obtain ⟨⟨t217, t218⟩, A110, H⟩ := H
  replace H : ((geo_Side.f k t214 t217 t218).bind fun bt219 => ((windhoverlaw09_arrow.f).bind fun t221 => ((windhoverlaw09_at.f 2 5).bind fun bt224 => ((geo_Side.f k t221 bt224.1 bt224.2).bind fun bt226 => ((windhoverlaw09_at.f 0 0).bind fun bt228 => ((windhoverlaw09_at.f 10 10).bind fun bt230 => ((geo_Touches.f bt228.1 bt228.2 bt230.1 bt230.2 4 6 0 4).bind fun bt232 => ((windhoverlaw09_square.f).bind fun t234 => ((geo_Area2.f k t234).bind fun bt237 => ((windhoverlaw09_at.f 0 0).bind fun bt239 => ((windhoverlaw09_at.f 3 (-4)).bind fun bt241 => ((geo_Far.f bt239.1 bt239.2 bt241.1 bt241.2).bind fun bt243 => (if t203 = 0 then (if t213 = 0 then (if bt219.2 = 0 then (if bt226.2 = 0 then (if bt232.2 = 0 then (if bt237.2 = 0 then (windhoverlaw09_awake.j0 k t202 t212 bt219.1 bt226.1 bt232.1 bt237.1 bt243.1 (bt243.2 == 0)) else (windhoverlaw09_awake.j0 k t202 t212 bt219.1 bt226.1 bt232.1 bt237.1 bt243.1 false)) else (windhoverlaw09_awake.j0 k t202 t212 bt219.1 bt226.1 bt232.1 bt237.1 bt243.1 false)) else (windhoverlaw09_awake.j0 k t202 t212 bt219.1 bt226.1 bt232.1 bt237.1 bt243.1 false)) else (windhoverlaw09_awake.j0 k t202 t212 bt219.1 bt226.1 bt232.1 bt237.1 bt243.1 false)) else (windhoverlaw09_awake.j0 k t202 t212 bt219.1 bt226.1 bt232.1 bt237.1 bt243.1 false)) else (windhoverlaw09_awake.j0 k t202 t212 bt219.1 bt226.1 bt232.1 bt237.1 bt243.1 false)))))))))))))) = some r := H
  have A11 := Aside0.mk A110
  clear A110
  replace H := Option.bind_eq_some_iff.mp H
  obtain ⟨⟨t219, t220⟩, A120, H⟩ := H
  replace H : ((windhoverlaw09_arrow.f).bind fun t221 => ((windhoverlaw09_at.f 2 5).bind fun bt224 => ((geo_Side.f k t221 bt224.1 bt224.2).bind fun bt226 => ((windhoverlaw09_at.f 0 0).bind fun bt228 => ((windhoverlaw09_at.f 10 10).bind fun bt230 => ((geo_Touches.f bt228.1 bt228.2 bt230.1 bt230.2 4 6 0 4).bind fun bt232 => ((windhoverlaw09_square.f).bind fun t234 => ((geo_Area2.f k t234).bind fun bt237 => ((windhoverlaw09_at.f 0 0).bind fun bt239 => ((windhoverlaw09_at.f 3 (-4)).bind fun bt241 => ((geo_Far.f bt239.1 bt239.2 bt241.1 bt241.2).bind fun bt243 => (if t203 = 0 then (if t213 = 0 then (if t220 = 0 then (if bt226.2 = 0 then (if bt232.2 = 0 then (if bt237.2 = 0 then (windhoverlaw09_awake.j0 k t202 t212 t219 bt226.1 bt232.1 bt237.1 bt243.1 (bt243.2 == 0)) else (windhoverlaw09_awake.j0 k t202 t212 t219 bt226.1 bt232.1 bt237.1 bt243.1 false)) else (windhoverlaw09_awake.j0 k t202 t212 t219 bt226.1 bt232.1 bt237.1 bt243.1 false)) else (windhoverlaw09_awake.j0 k t202 t212 t219 bt226.1 bt232.1 bt237.1 bt243.1 false)) else (windhoverlaw09_awake.j0 k t202 t212 t219 bt226.1 bt232.1 bt237.1 bt243.1 false)) else (windhoverlaw09_awake.j0 k t202 t212 t219 bt226.1 bt232.1 bt237.1 bt243.1 false)) else (windhoverlaw09_awake.j0 k t202 t212 t219 bt226.1 bt232.1 bt237.1 bt243.1 false))))))))))))) = some r := H
  have A12 := Aside0.mk A120
  clear A120
  replace H := Option.bind_eq_some_iff.mp H
  obtain ⟨t221, A130, H⟩ := H
  replace H : ((windhoverlaw09_at.f 2 5).bind fun bt224 => ((geo_Side.f k t221 bt224.1 bt224.2).bind fun bt226 => ((windhoverlaw09_at.f 0 0).bind fun bt228 => ((windhoverlaw09_at.f 10 10).bind fun bt230 => ((geo_Touches.f bt228.1 bt228.2 bt230.1 bt230.2 4 6 0 4).bind fun bt232 => ((windhoverlaw09_square.f).bind fun t234 => ((geo_Area2.f k t234).bind fun bt237 => ((windhoverlaw09_at.f 0 0).bind fun bt239 => ((windhoverlaw09_at.f 3 (-4)).bind fun bt241 => ((geo_Far.f bt239.1 bt239.2 bt241.1 bt241.2).bind fun bt243 => (if t203 = 0 then (if t213 = 0 then (if t220 = 0 then (if bt226.2 = 0 then (if bt232.2 = 0 then (if bt237.2 = 0 then (windhoverlaw09_awake.j0 k t202 t212 t219 bt226.1 bt232.1 bt237.1 bt243.1 (bt243.2 == 0)) else (windhoverlaw09_awake.j0 k t202 t212 t219 bt226.1 bt232.1 bt237.1 bt243.1 false)) else (windhoverlaw09_awake.j0 k t202 t212 t219 bt226.1 bt232.1 bt237.1 bt243.1 false)) else (windhoverlaw09_awake.j0 k t202 t212 t219 bt226.1 bt232.1 bt237.1 bt243.1 false)) else (windhoverlaw09_awake.j0 k t202 t212 t219 bt226.1 bt232.1 bt237.1 bt243.1 false)) else (windhoverlaw09_awake.j0 k t202 t212 t219 bt226.1 bt232.1 bt237.1 bt243.1 false)) else (windhoverlaw09_awake.j0 k t202 t212 t219 bt226.1 bt232.1 bt237.1 bt243.1 false)))))))))))) = some r := H
  have A13 := Aside0.mk A130
  clear A130
  replace H := Option.bind_eq_some_iff.mp H
  obtain ⟨⟨t224, t225⟩, A140, H⟩ := H
  replace H : ((geo_Side.f k t221 t224 t225).bind fun bt226 => ((windhoverlaw09_at.f 0 0).bind fun bt228 => ((windhoverlaw09_at.f 10 10).bind fun bt230 => ((geo_Touches.f bt228.1 bt228.2 bt230.1 bt230.2 4 6 0 4).bind fun bt232 => ((windhoverlaw09_square.f).bind fun t234 => ((geo_Area2.f k t234).bind fun bt237 => ((windhoverlaw09_at.f 0 0).bind fun bt239 => ((windhoverlaw09_at.f 3 (-4)).bind fun bt241 => ((geo_Far.f bt239.1 bt239.2 bt241.1 bt241.2).bind fun bt243 => (if t203 = 0 then (if t213 = 0 then (if t220 = 0 then (if bt226.2 = 0 then (if bt232.2 = 0 then (if bt237.2 = 0 then (windhoverlaw09_awake.j0 k t202 t212 t219 bt226.1 bt232.1 bt237.1 bt243.1 (bt243.2 == 0)) else (windhoverlaw09_awake.j0 k t202 t212 t219 bt226.1 bt232.1 bt237.1 bt243.1 false)) else (windhoverlaw09_awake.j0 k t202 t212 t219 bt226.1 bt232.1 bt237.1 bt243.1 false)) else (windhoverlaw09_awake.j0 k t202 t212 t219 bt226.1 bt232.1 bt237.1 bt243.1 false)) else (windhoverlaw09_awake.j0 k t202 t212 t219 bt226.1 bt232.1 bt237.1 bt243.1 false)) else (windhoverlaw09_awake.j0 k t202 t212 t219 bt226.1 bt232.1 bt237.1 bt243.1 false)) else (windhoverlaw09_awake.j0 k t202 t212 t219 bt226.1 bt232.1 bt237.1 bt243.1 false))))))))))) = some r := H
  have A14 := Aside0.mk A140
  clear A140
  replace H := Option.bind_eq_some_iff.mp H
  obtain ⟨⟨t226, t227⟩, A150, H⟩ := H
  replace H : ((windhoverlaw09_at.f 0 0).bind fun bt228 => ((windhoverlaw09_at.f 10 10).bind fun bt230 => ((geo_Touches.f bt228.1 bt228.2 bt230.1 bt230.2 4 6 0 4).bind fun bt232 => ((windhoverlaw09_square.f).bind fun t234 => ((geo_Area2.f k t234).bind fun bt237 => ((windhoverlaw09_at.f 0 0).bind fun bt239 => ((windhoverlaw09_at.f 3 (-4)).bind fun bt241 => ((geo_Far.f bt239.1 bt239.2 bt241.1 bt241.2).bind fun bt243 => (if t203 = 0 then (if t213 = 0 then (if t220 = 0 then (if t227 = 0 then (if bt232.2 = 0 then (if bt237.2 = 0 then (windhoverlaw09_awake.j0 k t202 t212 t219 t226 bt232.1 bt237.1 bt243.1 (bt243.2 == 0)) else (windhoverlaw09_awake.j0 k t202 t212 t219 t226 bt232.1 bt237.1 bt243.1 false)) else (windhoverlaw09_awake.j0 k t202 t212 t219 t226 bt232.1 bt237.1 bt243.1 false)) else (windhoverlaw09_awake.j0 k t202 t212 t219 t226 bt232.1 bt237.1 bt243.1 false)) else (windhoverlaw09_awake.j0 k t202 t212 t219 t226 bt232.1 bt237.1 bt243.1 false)) else (windhoverlaw09_awake.j0 k t202 t212 t219 t226 bt232.1 bt237.1 bt243.1 false)) else (windhoverlaw09_awake.j0 k t202 t212 t219 t226 bt232.1 bt237.1 bt243.1 false)))))))))) = some r := H
  have A15 := Aside0.mk A150
  clear A150
  replace H := Option.bind_eq_some_iff.mp H
  obtain ⟨⟨t228, t229⟩, A160, H⟩ := H
  replace H : ((windhoverlaw09_at.f 10 10).bind fun bt230 => ((geo_Touches.f t228 t229 bt230.1 bt230.2 4 6 0 4).bind fun bt232 => ((windhoverlaw09_square.f).bind fun t234 => ((geo_Area2.f k t234).bind fun bt237 => ((windhoverlaw09_at.f 0 0).bind fun bt239 => ((windhoverlaw09_at.f 3 (-4)).bind fun bt241 => ((geo_Far.f bt239.1 bt239.2 bt241.1 bt241.2).bind fun bt243 => (if t203 = 0 then (if t213 = 0 then (if t220 = 0 then (if t227 = 0 then (if bt232.2 = 0 then (if bt237.2 = 0 then (windhoverlaw09_awake.j0 k t202 t212 t219 t226 bt232.1 bt237.1 bt243.1 (bt243.2 == 0)) else (windhoverlaw09_awake.j0 k t202 t212 t219 t226 bt232.1 bt237.1 bt243.1 false)) else (windhoverlaw09_awake.j0 k t202 t212 t219 t226 bt232.1 bt237.1 bt243.1 false)) else (windhoverlaw09_awake.j0 k t202 t212 t219 t226 bt232.1 bt237.1 bt243.1 false)) else (windhoverlaw09_awake.j0 k t202 t212 t219 t226 bt232.1 bt237.1 bt243.1 false)) else (windhoverlaw09_awake.j0 k t202 t212 t219 t226 bt232.1 bt237.1 bt243.1 false)) else (windhoverlaw09_awake.j0 k t202 t212 t219 t226 bt232.1 bt237.1 bt243.1 false))))))))) = some r := H
  have A16 := Aside0.mk A160
  clear A160
  replace H := Option.bind_eq_some_iff.mp H
  obtain ⟨⟨t230, t231⟩, A170, H⟩ := H
  replace H : ((geo_Touches.f t228 t229 t230 t231 4 6 0 4).bind fun bt232 => ((windhoverlaw09_square.f).bind fun t234 => ((geo_Area2.f k t234).bind fun bt237 => ((windhoverlaw09_at.f 0 0).bind fun bt239 => ((windhoverlaw09_at.f 3 (-4)).bind fun bt241 => ((geo_Far.f bt239.1 bt239.2 bt241.1 bt241.2).bind fun bt243 => (if t203 = 0 then (if t213 = 0 then (if t220 = 0 then (if t227 = 0 then (if bt232.2 = 0 then (if bt237.2 = 0 then (windhoverlaw09_awake.j0 k t202 t212 t219 t226 bt232.1 bt237.1 bt243.1 (bt243.2 == 0)) else (windhoverlaw09_awake.j0 k t202 t212 t219 t226 bt232.1 bt237.1 bt243.1 false)) else (windhoverlaw09_awake.j0 k t202 t212 t219 t226 bt232.1 bt237.1 bt243.1 false)) else (windhoverlaw09_awake.j0 k t202 t212 t219 t226 bt232.1 bt237.1 bt243.1 false)) else (windhoverlaw09_awake.j0 k t202 t212 t219 t226 bt232.1 bt237.1 bt243.1 false)) else (windhoverlaw09_awake.j0 k t202 t212 t219 t226 bt232.1 bt237.1 bt243.1 false)) else (windhoverlaw09_awake.j0 k t202 t212 t219 t226 bt232.1 bt237.1 bt243.1 false)))))))) = some r := H
  have A17 := Aside0.mk A170
  clear A170
  replace H := Option.bind_eq_some_iff.mp H
  obtain ⟨⟨t232, t233⟩, A180, H⟩ := H
  replace H : ((windhoverlaw09_square.f).bind fun t234 => ((geo_Area2.f k t234).bind fun bt237 => ((windhoverlaw09_at.f 0 0).bind fun bt239 => ((windhoverlaw09_at.f 3 (-4)).bind fun bt241 => ((geo_Far.f bt239.1 bt239.2 bt241.1 bt241.2).bind fun bt243 => (if t203 = 0 then (if t213 = 0 then (if t220 = 0 then (if t227 = 0 then (if t233 = 0 then (if bt237.2 = 0 then (windhoverlaw09_awake.j0 k t202 t212 t219 t226 t232 bt237.1 bt243.1 (bt243.2 == 0)) else (windhoverlaw09_awake.j0 k t202 t212 t219 t226 t232 bt237.1 bt243.1 false)) else (windhoverlaw09_awake.j0 k t202 t212 t219 t226 t232 bt237.1 bt243.1 false)) else (windhoverlaw09_awake.j0 k t202 t212 t219 t226 t232 bt237.1 bt243.1 false)) else (windhoverlaw09_awake.j0 k t202 t212 t219 t226 t232 bt237.1 bt243.1 false)) else (windhoverlaw09_awake.j0 k t202 t212 t219 t226 t232 bt237.1 bt243.1 false)) else (windhoverlaw09_awake.j0 k t202 t212 t219 t226 t232 bt237.1 bt243.1 false))))))) = some r := H
  have A18 := Aside0.mk A180
  clear A180
  replace H := Option.bind_eq_some_iff.mp H
  obtain ⟨t234, A190, H⟩ := H
  replace H : ((geo_Area2.f k t234).bind fun bt237 => ((windhoverlaw09_at.f 0 0).bind fun bt239 => ((windhoverlaw09_at.f 3 (-4)).bind fun bt241 => ((geo_Far.f bt239.1 bt239.2 bt241.1 bt241.2).bind fun bt243 => (if t203 = 0 then (if t213 = 0 then (if t220 = 0 then (if t227 = 0 then (if t233 = 0 then (if bt237.2 = 0 then (windhoverlaw09_awake.j0 k t202 t212 t219 t226 t232 bt237.1 bt243.1 (bt243.2 == 0)) else (windhoverlaw09_awake.j0 k t202 t212 t219 t226 t232 bt237.1 bt243.1 false)) else (windhoverlaw09_awake.j0 k t202 t212 t219 t226 t232 bt237.1 bt243.1 false)) else (windhoverlaw09_awake.j0 k t202 t212 t219 t226 t232 bt237.1 bt243.1 false)) else (windhoverlaw09_awake.j0 k t202 t212 t219 t226 t232 bt237.1 bt243.1 false)) else (windhoverlaw09_awake.j0 k t202 t212 t219 t226 t232 bt237.1 bt243.1 false)) else (windhoverlaw09_awake.j0 k t202 t212 t219 t226 t232 bt237.1 bt243.1 false)))))) = some r := H
  have A19 := Aside0.mk A190
  clear A190
  replace H := Option.bind_eq_some_iff.mp H
  obtain ⟨⟨t237, t238⟩, A200, H⟩ := H
  replace H : ((windhoverlaw09_at.f 0 0).bind fun bt239 => ((windhoverlaw09_at.f 3 (-4)).bind fun bt241 => ((geo_Far.f bt239.1 bt239.2 bt241.1 bt241.2).bind fun bt243 => (if t203 = 0 then (if t213 = 0 then (if t220 = 0 then (if t227 = 0 then (if t233 = 0 then (if t238 = 0 then (windhoverlaw09_awake.j0 k t202 t212 t219 t226 t232 t237 bt243.1 (bt243.2 == 0)) else (windhoverlaw09_awake.j0 k t202 t212 t219 t226 t232 t237 bt243.1 false)) else (windhoverlaw09_awake.j0 k t202 t212 t219 t226 t232 t237 bt243.1 false)) else (windhoverlaw09_awake.j0 k t202 t212 t219 t226 t232 t237 bt243.1 false)) else (windhoverlaw09_awake.j0 k t202 t212 t219 t226 t232 t237 bt243.1 false)) else (windhoverlaw09_awake.j0 k t202 t212 t219 t226 t232 t237 bt243.1 false)) else (windhoverlaw09_awake.j0 k t202 t212 t219 t226 t232 t237 bt243.1 false))))) = some r := H
  have A20 := Aside0.mk A200
  clear A200
  replace H := Option.bind_eq_some_iff.mp H
  obtain ⟨⟨t239, t240⟩, A210, H⟩ := H
  replace H : ((windhoverlaw09_at.f 3 (-4)).bind fun bt241 => ((geo_Far.f t239 t240 bt241.1 bt241.2).bind fun bt243 => (if t203 = 0 then (if t213 = 0 then (if t220 = 0 then (if t227 = 0 then (if t233 = 0 then (if t238 = 0 then (windhoverlaw09_awake.j0 k t202 t212 t219 t226 t232 t237 bt243.1 (bt243.2 == 0)) else (windhoverlaw09_awake.j0 k t202 t212 t219 t226 t232 t237 bt243.1 false)) else (windhoverlaw09_awake.j0 k t202 t212 t219 t226 t232 t237 bt243.1 false)) else (windhoverlaw09_awake.j0 k t202 t212 t219 t226 t232 t237 bt243.1 false)) else (windhoverlaw09_awake.j0 k t202 t212 t219 t226 t232 t237 bt243.1 false)) else (windhoverlaw09_awake.j0 k t202 t212 t219 t226 t232 t237 bt243.1 false)) else (windhoverlaw09_awake.j0 k t202 t212 t219 t226 t232 t237 bt243.1 false)))) = some r := H
  have A21 := Aside0.mk A210
  clear A210
  replace H := Option.bind_eq_some_iff.mp H
  obtain ⟨⟨t241, t242⟩, A220, H⟩ := H
  replace H : ((geo_Far.f t239 t240 t241 t242).bind fun bt243 => (if t203 = 0 then (if t213 = 0 then (if t220 = 0 then (if t227 = 0 then (if t233 = 0 then (if t238 = 0 then (windhoverlaw09_awake.j0 k t202 t212 t219 t226 t232 t237 bt243.1 (bt243.2 == 0)) else (windhoverlaw09_awake.j0 k t202 t212 t219 t226 t232 t237 bt243.1 false)) else (windhoverlaw09_awake.j0 k t202 t212 t219 t226 t232 t237 bt243.1 false)) else (windhoverlaw09_awake.j0 k t202 t212 t219 t226 t232 t237 bt243.1 false)) else (windhoverlaw09_awake.j0 k t202 t212 t219 t226 t232 t237 bt243.1 false)) else (windhoverlaw09_awake.j0 k t202 t212 t219 t226 t232 t237 bt243.1 false)) else (windhoverlaw09_awake.j0 k t202 t212 t219 t226 t232 t237 bt243.1 false))) = some r := H
  have A22 := Aside0.mk A220
  clear A220
  replace H := Option.bind_eq_some_iff.mp H
  obtain ⟨⟨t243, t244⟩, A230, H⟩ := H
  replace H : (if t203 = 0 then (if t213 = 0 then (if t220 = 0 then (if t227 = 0 then (if t233 = 0 then (if t238 = 0 then (windhoverlaw09_awake.j0 k t202 t212 t219 t226 t232 t237 t243 (t244 == 0)) else (windhoverlaw09_awake.j0 k t202 t212 t219 t226 t232 t237 t243 false)) else (windhoverlaw09_awake.j0 k t202 t212 t219 t226 t232 t237 t243 false)) else (windhoverlaw09_awake.j0 k t202 t212 t219 t226 t232 t237 t243 false)) else (windhoverlaw09_awake.j0 k t202 t212 t219 t226 t232 t237 t243 false)) else (windhoverlaw09_awake.j0 k t202 t212 t219 t226 t232 t237 t243 false)) else (windhoverlaw09_awake.j0 k t202 t212 t219 t226 t232 t237 t243 false)) = some r := H
  have A23 := Aside0.mk A230
  clear A230
  have HC24 := Aside0.mk H
  clear H
  go_enter Try.func18, Try.ntmps18
  go_upto_region 8 with (first | ((with_reducible refine gate_callee (f := 32) rfl ?_); refine goesL_ (some 17) rfl rfl Try.func32 (by kernel_rfl) rfl #[.int .i64 0, .int .i64 0] rfl (by (try simp only [List.map_toArray, List.map_cons, List.map_nil]); first | done | rfl | (simp only [List.length_drop, List.length_take]; rfl)) ?_; (with_reducible refine (windhoverlaw09_at.calls 0 0 t196 t197 _ A1.out).mono ?_); rintro e w25 ⟨rfl, hb⟩; refine ⟨_, rfl, ?_⟩; have n0_ := Aside0.mk (below_step (by repeat (first | (with_reducible first | exact HB.out | apply below_alloc | apply pw_below_drewN | apply below_drew1) | exact HB.out)) hb); clear HB; have HB := n0_; clear n0_; (try clear hb); (try clear hb2); (try clear hk); (try clear hi)) | ((with_reducible refine gate_callee (f := 32) rfl ?_); refine goesL_ (some 18) rfl rfl Try.func32 (by kernel_rfl) rfl #[.int .i64 5, .int .i64 0] rfl (by (try simp only [List.map_toArray, List.map_cons, List.map_nil]); first | done | rfl | (simp only [List.length_drop, List.length_take]; rfl)) ?_; (with_reducible refine (windhoverlaw09_at.calls 5 0 t198 t199 _ A2.out).mono ?_); rintro e w26 ⟨rfl, hb⟩; refine ⟨_, rfl, ?_⟩; have n0_ := Aside0.mk (below_step (by repeat (first | (with_reducible first | exact HB.out | apply below_alloc | apply pw_below_drewN | apply below_drew1) | exact HB.out)) hb); clear HB; have HB := n0_; clear n0_; (try clear hb); (try clear hb2); (try clear hk); (try clear hi)) | ((with_reducible refine gate_callee (f := 32) rfl ?_); refine goesL_ (some 19) rfl rfl Try.func32 (by kernel_rfl) rfl #[.int .i64 3, .int .i64 1] rfl (by (try simp only [List.map_toArray, List.map_cons, List.map_nil]); first | done | rfl | (simp only [List.length_drop, List.length_take]; rfl)) ?_; (with_reducible refine (windhoverlaw09_at.calls 3 1 t200 t201 _ A3.out).mono ?_); rintro e w27 ⟨rfl, hb⟩; refine ⟨_, rfl, ?_⟩; have n0_ := Aside0.mk (below_step (by repeat (first | (with_reducible first | exact HB.out | apply below_alloc | apply pw_below_drewN | apply below_drew1) | exact HB.out)) hb); clear HB; have HB := n0_; clear n0_; (try clear hb); (try clear hb2); (try clear hk); (try clear hi)) | ((with_reducible refine gate_callee (f := 14) rfl ?_); refine goesL_ (some 20) rfl rfl Try.func14 (by kernel_rfl) rfl #[.agg #[.int .i64 t196, .int .i64 t197], .agg #[.int .i64 t198, .int .i64 t199], .agg #[.int .i64 t200, .int .i64 t201]] rfl (by (try simp only [List.map_toArray, List.map_cons, List.map_nil]); first | done | rfl | (simp only [List.length_drop, List.length_take]; rfl)) ?_; (with_reducible refine (geo_Orient.calls t196 t197 t198 t199 t200 t201 t202 t203 _ A4.out).mono ?_); rintro e w28 ⟨rfl, hb⟩; refine ⟨_, rfl, ?_⟩; have n0_ := Aside0.mk (below_step (by repeat (first | (with_reducible first | exact HB.out | apply below_alloc | apply pw_below_drewN | apply below_drew1) | exact HB.out)) hb); clear HB; have HB := n0_; clear n0_; (try clear hb); (try clear hb2); (try clear hk); (try clear hi)) | ((with_reducible refine gate_callee (f := 32) rfl ?_); refine goesL_ (some 24) rfl rfl Try.func32 (by kernel_rfl) rfl #[.int .i64 0, .int .i64 0] rfl (by (try simp only [List.map_toArray, List.map_cons, List.map_nil]); first | done | rfl | (simp only [List.length_drop, List.length_take]; rfl)) ?_; (with_reducible refine (windhoverlaw09_at.calls 0 0 t204 t205 _ A5.out).mono ?_); rintro e w29 ⟨rfl, hb⟩; refine ⟨_, rfl, ?_⟩; have n0_ := Aside0.mk (below_step (by repeat (first | (with_reducible first | exact HB.out | apply below_alloc | apply pw_below_drewN | apply below_drew1) | exact HB.out)) hb); clear HB; have HB := n0_; clear n0_; (try clear hb); (try clear hb2); (try clear hk); (try clear hi)) | ((with_reducible refine gate_callee (f := 32) rfl ?_); refine goesL_ (some 25) rfl rfl Try.func32 (by kernel_rfl) rfl #[.int .i64 4, .int .i64 4] rfl (by (try simp only [List.map_toArray, List.map_cons, List.map_nil]); first | done | rfl | (simp only [List.length_drop, List.length_take]; rfl)) ?_; (with_reducible refine (windhoverlaw09_at.calls 4 4 t206 t207 _ A6.out).mono ?_); rintro e w30 ⟨rfl, hb⟩; refine ⟨_, rfl, ?_⟩; have n0_ := Aside0.mk (below_step (by repeat (first | (with_reducible first | exact HB.out | apply below_alloc | apply pw_below_drewN | apply below_drew1) | exact HB.out)) hb); clear HB; have HB := n0_; clear n0_; (try clear hb); (try clear hb2); (try clear hk); (try clear hi)) | ((with_reducible refine gate_callee (f := 32) rfl ?_); refine goesL_ (some 26) rfl rfl Try.func32 (by kernel_rfl) rfl #[.int .i64 0, .int .i64 4] rfl (by (try simp only [List.map_toArray, List.map_cons, List.map_nil]); first | done | rfl | (simp only [List.length_drop, List.length_take]; rfl)) ?_; (with_reducible refine (windhoverlaw09_at.calls 0 4 t208 t209 _ A7.out).mono ?_); rintro e w31 ⟨rfl, hb⟩; refine ⟨_, rfl, ?_⟩; have n0_ := Aside0.mk (below_step (by repeat (first | (with_reducible first | exact HB.out | apply below_alloc | apply pw_below_drewN | apply below_drew1) | exact HB.out)) hb); clear HB; have HB := n0_; clear n0_; (try clear hb); (try clear hb2); (try clear hk); (try clear hi)) | ((with_reducible refine gate_callee (f := 32) rfl ?_); refine goesL_ (some 27) rfl rfl Try.func32 (by kernel_rfl) rfl #[.int .i64 4, .int .i64 0] rfl (by (try simp only [List.map_toArray, List.map_cons, List.map_nil]); first | done | rfl | (simp only [List.length_drop, List.length_take]; rfl)) ?_; (with_reducible refine (windhoverlaw09_at.calls 4 0 t210 t211 _ A8.out).mono ?_); rintro e w32 ⟨rfl, hb⟩; refine ⟨_, rfl, ?_⟩; have n0_ := Aside0.mk (below_step (by repeat (first | (with_reducible first | exact HB.out | apply below_alloc | apply pw_below_drewN | apply below_drew1) | exact HB.out)) hb); clear HB; have HB := n0_; clear n0_; (try clear hb); (try clear hb2); (try clear hk); (try clear hi)) | ((with_reducible refine gate_callee (f := 20) rfl ?_); refine goesL_ (some 28) rfl rfl Try.func20 (by kernel_rfl) rfl #[.agg #[.int .i64 t204, .int .i64 t205], .agg #[.int .i64 t206, .int .i64 t207], .agg #[.int .i64 t208, .int .i64 t209], .agg #[.int .i64 t210, .int .i64 t211]] rfl (by (try simp only [List.map_toArray, List.map_cons, List.map_nil]); first | done | rfl | (simp only [List.length_drop, List.length_take]; rfl)) ?_; (with_reducible refine (geo_Meet.calls k t204 t205 t206 t207 t208 t209 t210 t211 t212 t213 _ A9.out).mono ?_); rintro e w33 ⟨rfl, hb⟩; refine ⟨_, rfl, ?_⟩; have n0_ := Aside0.mk (below_step (by repeat (first | (with_reducible first | exact HB.out | apply below_alloc | apply pw_below_drewN | apply below_drew1) | exact HB.out)) hb); clear HB; have HB := n0_; clear n0_; (try clear hb); (try clear hb2); (try clear hk); (try clear hi)) | ((with_reducible refine gate_callee (f := 39) rfl ?_); refine goesL_ (some 32) rfl rfl Try.func39 (by kernel_rfl) rfl #[] rfl (by (try simp only [List.map_toArray, List.map_cons, List.map_nil]); first | done | rfl | (simp only [List.length_drop, List.length_take]; rfl)) ?_; (with_reducible refine (windhoverlaw09_arrow.calls  t214 _ A10.out).mono ?_); rintro e w34 ⟨v215, rfl, ho0, hb⟩; refine ⟨_, rfl, ?_⟩; have n0_ := Aside0.mk (Kd.R_lower ho0 (below_size (by repeat (first | (with_reducible first | exact HB.out | apply below_alloc | apply pw_below_drewN | apply below_drew1) | exact HB.out)))); have n1_ := Aside0.mk (below_step (by repeat (first | (with_reducible first | exact HB.out | apply below_alloc | apply pw_below_drewN | apply below_drew1) | exact HB.out)) hb); clear HB; have HO216 := n0_; have HB := n1_; clear n0_ n1_; (try clear hb); (try clear hb2); (try clear hk); (try clear hi); (try clear ho0)) | ((with_reducible refine gate_callee (f := 32) rfl ?_); refine goesL_ (some 33) rfl rfl Try.func32 (by kernel_rfl) rfl #[.int .i64 4, .int .i64 5] rfl (by (try simp only [List.map_toArray, List.map_cons, List.map_nil]); first | done | rfl | (simp only [List.length_drop, List.length_take]; rfl)) ?_; (with_reducible refine (windhoverlaw09_at.calls 4 5 t217 t218 _ A11.out).mono ?_); rintro e w35 ⟨rfl, hb⟩; refine ⟨_, rfl, ?_⟩; have n0_ := Aside0.mk (Kd.R_below (by (with_reducible repeat (first | apply Kd.R_alloc | apply Kd.R_drewN | apply Kd.R_drew)); exact HO216.out) hb); have n1_ := Aside0.mk (below_step (by repeat (first | (with_reducible first | exact HB.out | apply below_alloc | apply pw_below_drewN | apply below_drew1) | exact HB.out)) hb); clear HO216; clear HB; have HO216 := n0_; have HB := n1_; clear n0_ n1_; (try clear hb); (try clear hb2); (try clear hk); (try clear hi); obtain ⟨Ao36, co36, eo36⟩ := Kd.R_slice HO216.out; subst eo36) | ((with_reducible refine gate_callee (f := 27) rfl ?_); refine goesL_ (some 34) rfl rfl Try.func27 (by kernel_rfl) rfl #[.slice Ao36 t214.length co36, .agg #[.int .i64 t217, .int .i64 t218]] rfl (by (try simp only [List.map_toArray, List.map_cons, List.map_nil]); first | done | rfl | (simp only [List.length_drop, List.length_take]; rfl)) ?_; (with_reducible refine (geo_Side.calls k _ _ t214 t217 t218 t219 t220 _ ?side1 ?side2 A12.out).mono ?_); (case side1 => repeat (first | exact (Kd.R_reads' HO216.out).2.2 | (with_reducible refine Kd.C_alloc ?_ _) | (with_reducible refine Kd.C_drewN ?_ _) | (with_reducible refine Kd.C_drew ?_))); (case side2 => exact (Kd.R_reads' HO216.out).2.1); rintro e w37 ⟨rfl, hb⟩; refine ⟨_, rfl, ?_⟩; have n0_ := Aside0.mk (Kd.R_below (by (with_reducible repeat (first | apply Kd.R_alloc | apply Kd.R_drewN | apply Kd.R_drew)); exact HO216.out) hb); have n1_ := Aside0.mk (below_step (by repeat (first | (with_reducible first | exact HB.out | apply below_alloc | apply pw_below_drewN | apply below_drew1) | exact HB.out)) hb); clear HO216; clear HB; have HO216 := n0_; have HB := n1_; clear n0_ n1_; (try clear hb); (try clear hb2); (try clear hk); (try clear hi)) | ((with_reducible refine gate_callee (f := 39) rfl ?_); refine goesL_ (some 38) rfl rfl Try.func39 (by kernel_rfl) rfl #[] rfl (by (try simp only [List.map_toArray, List.map_cons, List.map_nil]); first | done | rfl | (simp only [List.length_drop, List.length_take]; rfl)) ?_; (with_reducible refine (windhoverlaw09_arrow.calls  t221 _ A13.out).mono ?_); rintro e w38 ⟨v222, rfl, ho0, hb⟩; refine ⟨_, rfl, ?_⟩; have n0_ := Aside0.mk (Kd.R_elder' (by (with_reducible repeat (first | apply Kd.R_alloc | apply Kd.R_drewN | apply Kd.R_drew)); exact HO216.out) (Kd.R_base ho0) hb); have n1_ := Aside0.mk (Kd.R_lower (Kd.R_new' ho0 (Kd.R_lt (by (with_reducible repeat (first | apply Kd.R_alloc | apply Kd.R_drewN | apply Kd.R_drew)); exact HO216.out))) (below_size (by repeat (first | (with_reducible first | exact HB.out | apply below_alloc | apply pw_below_drewN | apply below_drew1) | exact HB.out)))); have n2_ := Aside0.mk (below_step (by repeat (first | (with_reducible first | exact HB.out | apply below_alloc | apply pw_below_drewN | apply below_drew1) | exact HB.out)) hb); clear HO216; clear HB; have HO216 := n0_; have HO223 := n1_; have HB := n2_; clear n0_ n1_ n2_; (try clear hb); (try clear hb2); (try clear hk); (try clear hi); (try clear ho0)) | ((with_reducible refine gate_callee (f := 32) rfl ?_); refine goesL_ (some 39) rfl rfl Try.func32 (by kernel_rfl) rfl #[.int .i64 2, .int .i64 5] rfl (by (try simp only [List.map_toArray, List.map_cons, List.map_nil]); first | done | rfl | (simp only [List.length_drop, List.length_take]; rfl)) ?_; (with_reducible refine (windhoverlaw09_at.calls 2 5 t224 t225 _ A14.out).mono ?_); rintro e w39 ⟨rfl, hb⟩; refine ⟨_, rfl, ?_⟩; have n0_ := Aside0.mk (Kd.R_below (by (with_reducible repeat (first | apply Kd.R_alloc | apply Kd.R_drewN | apply Kd.R_drew)); exact HO216.out) hb); have n1_ := Aside0.mk (Kd.R_below (by (with_reducible repeat (first | apply Kd.R_alloc | apply Kd.R_drewN | apply Kd.R_drew)); exact HO223.out) hb); have n2_ := Aside0.mk (below_step (by repeat (first | (with_reducible first | exact HB.out | apply below_alloc | apply pw_below_drewN | apply below_drew1) | exact HB.out)) hb); clear HO216; clear HO223; clear HB; have HO216 := n0_; have HO223 := n1_; have HB := n2_; clear n0_ n1_ n2_; (try clear hb); (try clear hb2); (try clear hk); (try clear hi); obtain ⟨Ao40, co40, eo40⟩ := Kd.R_slice HO223.out; subst eo40) | ((with_reducible refine gate_callee (f := 27) rfl ?_); refine goesL_ (some 40) rfl rfl Try.func27 (by kernel_rfl) rfl #[.slice Ao40 t221.length co40, .agg #[.int .i64 t224, .int .i64 t225]] rfl (by (try simp only [List.map_toArray, List.map_cons, List.map_nil]); first | done | rfl | (simp only [List.length_drop, List.length_take]; rfl)) ?_; (with_reducible refine (geo_Side.calls k _ _ t221 t224 t225 t226 t227 _ ?side1 ?side2 A15.out).mono ?_); (case side1 => repeat (first | exact (Kd.R_reads' HO223.out).2.2 | (with_reducible refine Kd.C_alloc ?_ _) | (with_reducible refine Kd.C_drewN ?_ _) | (with_reducible refine Kd.C_drew ?_))); (case side2 => exact (Kd.R_reads' HO223.out).2.1); rintro e w41 ⟨rfl, hb⟩; refine ⟨_, rfl, ?_⟩; have n0_ := Aside0.mk (Kd.R_below (by (with_reducible repeat (first | apply Kd.R_alloc | apply Kd.R_drewN | apply Kd.R_drew)); exact HO216.out) hb); have n1_ := Aside0.mk (Kd.R_below (by (with_reducible repeat (first | apply Kd.R_alloc | apply Kd.R_drewN | apply Kd.R_drew)); exact HO223.out) hb); have n2_ := Aside0.mk (below_step (by repeat (first | (with_reducible first | exact HB.out | apply below_alloc | apply pw_below_drewN | apply below_drew1) | exact HB.out)) hb); clear HO216; clear HO223; clear HB; have HO216 := n0_; have HO223 := n1_; have HB := n2_; clear n0_ n1_ n2_; (try clear hb); (try clear hb2); (try clear hk); (try clear hi)) | ((with_reducible refine gate_callee (f := 32) rfl ?_); refine goesL_ (some 44) rfl rfl Try.func32 (by kernel_rfl) rfl #[.int .i64 0, .int .i64 0] rfl (by (try simp only [List.map_toArray, List.map_cons, List.map_nil]); first | done | rfl | (simp only [List.length_drop, List.length_take]; rfl)) ?_; (with_reducible refine (windhoverlaw09_at.calls 0 0 t228 t229 _ A16.out).mono ?_); rintro e w42 ⟨rfl, hb⟩; refine ⟨_, rfl, ?_⟩; have n0_ := Aside0.mk (Kd.R_below (by (with_reducible repeat (first | apply Kd.R_alloc | apply Kd.R_drewN | apply Kd.R_drew)); exact HO216.out) hb); have n1_ := Aside0.mk (Kd.R_below (by (with_reducible repeat (first | apply Kd.R_alloc | apply Kd.R_drewN | apply Kd.R_drew)); exact HO223.out) hb); have n2_ := Aside0.mk (below_step (by repeat (first | (with_reducible first | exact HB.out | apply below_alloc | apply pw_below_drewN | apply below_drew1) | exact HB.out)) hb); clear HO216; clear HO223; clear HB; have HO216 := n0_; have HO223 := n1_; have HB := n2_; clear n0_ n1_ n2_; (try clear hb); (try clear hb2); (try clear hk); (try clear hi)) | ((with_reducible refine gate_callee (f := 32) rfl ?_); refine goesL_ (some 45) rfl rfl Try.func32 (by kernel_rfl) rfl #[.int .i64 10, .int .i64 10] rfl (by (try simp only [List.map_toArray, List.map_cons, List.map_nil]); first | done | rfl | (simp only [List.length_drop, List.length_take]; rfl)) ?_; (with_reducible refine (windhoverlaw09_at.calls 10 10 t230 t231 _ A17.out).mono ?_); rintro e w43 ⟨rfl, hb⟩; refine ⟨_, rfl, ?_⟩; have n0_ := Aside0.mk (Kd.R_below (by (with_reducible repeat (first | apply Kd.R_alloc | apply Kd.R_drewN | apply Kd.R_drew)); exact HO216.out) hb); have n1_ := Aside0.mk (Kd.R_below (by (with_reducible repeat (first | apply Kd.R_alloc | apply Kd.R_drewN | apply Kd.R_drew)); exact HO223.out) hb); have n2_ := Aside0.mk (below_step (by repeat (first | (with_reducible first | exact HB.out | apply below_alloc | apply pw_below_drewN | apply below_drew1) | exact HB.out)) hb); clear HO216; clear HO223; clear HB; have HO216 := n0_; have HO223 := n1_; have HB := n2_; clear n0_ n1_ n2_; (try clear hb); (try clear hb2); (try clear hk); (try clear hi)) | ((with_reducible refine gate_callee (f := 29) rfl ?_); refine goesL_ (some 48) rfl rfl Try.func29 (by kernel_rfl) rfl #[.agg #[.int .i64 t228, .int .i64 t229], .agg #[.int .i64 t230, .int .i64 t231], .agg #[.int .i64 4, .int .i64 6], .agg #[.int .i64 0, .int .i64 4]] rfl (by (try simp only [List.map_toArray, List.map_cons, List.map_nil]); first | done | rfl | (simp only [List.length_drop, List.length_take]; rfl)) ?_; (with_reducible refine (geo_Touches.calls t228 t229 t230 t231 4 6 0 4 t232 t233 _ A18.out).mono ?_); rintro e w44 ⟨rfl, hb⟩; refine ⟨_, rfl, ?_⟩; have n0_ := Aside0.mk (Kd.R_below (by (with_reducible repeat (first | apply Kd.R_alloc | apply Kd.R_drewN | apply Kd.R_drew)); exact HO216.out) hb); have n1_ := Aside0.mk (Kd.R_below (by (with_reducible repeat (first | apply Kd.R_alloc | apply Kd.R_drewN | apply Kd.R_drew)); exact HO223.out) hb); have n2_ := Aside0.mk (below_step (by repeat (first | (with_reducible first | exact HB.out | apply below_alloc | apply pw_below_drewN | apply below_drew1) | exact HB.out)) hb); clear HO216; clear HO223; clear HB; have HO216 := n0_; have HO223 := n1_; have HB := n2_; clear n0_ n1_ n2_; (try clear hb); (try clear hb2); (try clear hk); (try clear hi)) | ((with_reducible refine gate_callee (f := 40) rfl ?_); refine goesL_ (some 52) rfl rfl Try.func40 (by kernel_rfl) rfl #[] rfl (by (try simp only [List.map_toArray, List.map_cons, List.map_nil]); first | done | rfl | (simp only [List.length_drop, List.length_take]; rfl)) ?_; (with_reducible refine (windhoverlaw09_square.calls  t234 _ A19.out).mono ?_); rintro e w45 ⟨v235, rfl, ho0, hb⟩; refine ⟨_, rfl, ?_⟩; have n0_ := Aside0.mk (Kd.R_elder' (by (with_reducible repeat (first | apply Kd.R_alloc | apply Kd.R_drewN | apply Kd.R_drew)); exact HO216.out) (Kd.R_base ho0) hb); have n1_ := Aside0.mk (Kd.R_elder' (by (with_reducible repeat (first | apply Kd.R_alloc | apply Kd.R_drewN | apply Kd.R_drew)); exact HO223.out) (Kd.R_base ho0) hb); have n2_ := Aside0.mk (Kd.R_lower (Kd.R_new' (Kd.R_new' ho0 (Kd.R_lt (by (with_reducible repeat (first | apply Kd.R_alloc | apply Kd.R_drewN | apply Kd.R_drew)); exact HO216.out))) (Kd.R_lt (by (with_reducible repeat (first | apply Kd.R_alloc | apply Kd.R_drewN | apply Kd.R_drew)); exact HO223.out))) (below_size (by repeat (first | (with_reducible first | exact HB.out | apply below_alloc | apply pw_below_drewN | apply below_drew1) | exact HB.out)))); have n3_ := Aside0.mk (below_step (by repeat (first | (with_reducible first | exact HB.out | apply below_alloc | apply pw_below_drewN | apply below_drew1) | exact HB.out)) hb); clear HO216; clear HO223; clear HB; have HO216 := n0_; have HO223 := n1_; have HO236 := n2_; have HB := n3_; clear n0_ n1_ n2_ n3_; (try clear hb); (try clear hb2); (try clear hk); (try clear hi); (try clear ho0); obtain ⟨Ao46, co46, eo46⟩ := Kd.R_slice HO236.out; subst eo46) | ((with_reducible refine gate_callee (f := 23) rfl ?_); refine goesL_ (some 53) rfl rfl Try.func23 (by kernel_rfl) rfl #[.slice Ao46 t234.length co46] rfl (by (try simp only [List.map_toArray, List.map_cons, List.map_nil]); first | done | rfl | (simp only [List.length_drop, List.length_take]; rfl)) ?_; (with_reducible refine (geo_Area2.calls k _ _ t234 t237 t238 _ ?side1 ?side2 A20.out).mono ?_); (case side1 => repeat (first | exact (Kd.R_reads' HO236.out).2.2 | (with_reducible refine Kd.C_alloc ?_ _) | (with_reducible refine Kd.C_drewN ?_ _) | (with_reducible refine Kd.C_drew ?_))); (case side2 => exact (Kd.R_reads' HO236.out).2.1); rintro e w47 ⟨rfl, hb⟩; refine ⟨_, rfl, ?_⟩; have n0_ := Aside0.mk (Kd.R_below (by (with_reducible repeat (first | apply Kd.R_alloc | apply Kd.R_drewN | apply Kd.R_drew)); exact HO216.out) hb); have n1_ := Aside0.mk (Kd.R_below (by (with_reducible repeat (first | apply Kd.R_alloc | apply Kd.R_drewN | apply Kd.R_drew)); exact HO223.out) hb); have n2_ := Aside0.mk (Kd.R_below (by (with_reducible repeat (first | apply Kd.R_alloc | apply Kd.R_drewN | apply Kd.R_drew)); exact HO236.out) hb); have n3_ := Aside0.mk (below_step (by repeat (first | (with_reducible first | exact HB.out | apply below_alloc | apply pw_below_drewN | apply below_drew1) | exact HB.out)) hb); clear HO216; clear HO223; clear HO236; clear HB; have HO216 := n0_; have HO223 := n1_; have HO236 := n2_; have HB := n3_; clear n0_ n1_ n2_ n3_; (try clear hb); (try clear hb2); (try clear hk); (try clear hi)) | ((with_reducible refine gate_callee (f := 32) rfl ?_); refine goesL_ (some 57) rfl rfl Try.func32 (by kernel_rfl) rfl #[.int .i64 0, .int .i64 0] rfl (by (try simp only [List.map_toArray, List.map_cons, List.map_nil]); first | done | rfl | (simp only [List.length_drop, List.length_take]; rfl)) ?_; (with_reducible refine (windhoverlaw09_at.calls 0 0 t239 t240 _ A21.out).mono ?_); rintro e w48 ⟨rfl, hb⟩; refine ⟨_, rfl, ?_⟩; have n0_ := Aside0.mk (Kd.R_below (by (with_reducible repeat (first | apply Kd.R_alloc | apply Kd.R_drewN | apply Kd.R_drew)); exact HO216.out) hb); have n1_ := Aside0.mk (Kd.R_below (by (with_reducible repeat (first | apply Kd.R_alloc | apply Kd.R_drewN | apply Kd.R_drew)); exact HO223.out) hb); have n2_ := Aside0.mk (Kd.R_below (by (with_reducible repeat (first | apply Kd.R_alloc | apply Kd.R_drewN | apply Kd.R_drew)); exact HO236.out) hb); have n3_ := Aside0.mk (below_step (by repeat (first | (with_reducible first | exact HB.out | apply below_alloc | apply pw_below_drewN | apply below_drew1) | exact HB.out)) hb); clear HO216; clear HO223; clear HO236; clear HB; have HO216 := n0_; have HO223 := n1_; have HO236 := n2_; have HB := n3_; clear n0_ n1_ n2_ n3_; (try clear hb); (try clear hb2); (try clear hk); (try clear hi)) | ((with_reducible refine gate_callee (f := 32) rfl ?_); refine goesL_ (some 58) rfl rfl Try.func32 (by kernel_rfl) rfl #[.int .i64 3, .int .i64 (-4)] rfl (by (try simp only [List.map_toArray, List.map_cons, List.map_nil]); first | done | rfl | (simp only [List.length_drop, List.length_take]; rfl)) ?_; (with_reducible refine (windhoverlaw09_at.calls 3 (-4) t241 t242 _ A22.out).mono ?_); rintro e w49 ⟨rfl, hb⟩; refine ⟨_, rfl, ?_⟩; have n0_ := Aside0.mk (Kd.R_below (by (with_reducible repeat (first | apply Kd.R_alloc | apply Kd.R_drewN | apply Kd.R_drew)); exact HO216.out) hb); have n1_ := Aside0.mk (Kd.R_below (by (with_reducible repeat (first | apply Kd.R_alloc | apply Kd.R_drewN | apply Kd.R_drew)); exact HO223.out) hb); have n2_ := Aside0.mk (Kd.R_below (by (with_reducible repeat (first | apply Kd.R_alloc | apply Kd.R_drewN | apply Kd.R_drew)); exact HO236.out) hb); have n3_ := Aside0.mk (below_step (by repeat (first | (with_reducible first | exact HB.out | apply below_alloc | apply pw_below_drewN | apply below_drew1) | exact HB.out)) hb); clear HO216; clear HO223; clear HO236; clear HB; have HO216 := n0_; have HO223 := n1_; have HO236 := n2_; have HB := n3_; clear n0_ n1_ n2_ n3_; (try clear hb); (try clear hb2); (try clear hk); (try clear hi)) | ((with_reducible refine gate_callee (f := 16) rfl ?_); refine goesL_ (some 59) rfl rfl Try.func16 (by kernel_rfl) rfl #[.agg #[.int .i64 t239, .int .i64 t240], .agg #[.int .i64 t241, .int .i64 t242]] rfl (by (try simp only [List.map_toArray, List.map_cons, List.map_nil]); first | done | rfl | (simp only [List.length_drop, List.length_take]; rfl)) ?_; (with_reducible refine (geo_Far.calls t239 t240 t241 t242 t243 t244 _ A23.out).mono ?_); rintro e w50 ⟨rfl, hb⟩; refine ⟨_, rfl, ?_⟩; have n0_ := Aside0.mk (Kd.R_below (by (with_reducible repeat (first | apply Kd.R_alloc | apply Kd.R_drewN | apply Kd.R_drew)); exact HO216.out) hb); have n1_ := Aside0.mk (Kd.R_below (by (with_reducible repeat (first | apply Kd.R_alloc | apply Kd.R_drewN | apply Kd.R_drew)); exact HO223.out) hb); have n2_ := Aside0.mk (Kd.R_below (by (with_reducible repeat (first | apply Kd.R_alloc | apply Kd.R_drewN | apply Kd.R_drew)); exact HO236.out) hb); have n3_ := Aside0.mk (below_step (by repeat (first | (with_reducible first | exact HB.out | apply below_alloc | apply pw_below_drewN | apply below_drew1) | exact HB.out)) hb); clear HO216; clear HO223; clear HO236; clear HB; have HO216 := n0_; have HO223 := n1_; have HO236 := n2_; have HB := n3_; clear n0_ n1_ n2_ n3_; (try clear hb); (try clear hb2); (try clear hk); (try clear hi)))
  (try simp only [Act.put, List.setIfInBounds_toArray, List.set_cons_zero, List.set_cons_succ])
  go_cut [15] (fun v15 wc => ∃ (kq : Nat) (x15_23 : Bool), v15 = .bool x15_23 ∧ Aside0 (windhoverlaw09_awake.j0 kq t202 t212 t219 t226 t232 t237 t243 x15_23 = some r) ∧ Aside0 (kq ≤ k) ∧ Aside0 (Below w.heap.size w wc))
  case first =>
    have H := HC24.out
    clear HC24
    by_cases c51 : t203 = 0
    · rw [if_pos c51] at H
      have c51b0 : (t203 == 0) = true := beq_iff_eq.mpr c51
      have c51b1 : (t203 != 0) = false := bne_eq_false_iff_eq.mpr c51
      clear c51
      (first | rw [c51b0] | (simp only [i64_w, i32_w]; rw [c51b0]) | skip)
      by_cases c52 : t213 = 0
      · rw [if_pos c52] at H
        have c52b0 : (t213 == 0) = true := beq_iff_eq.mpr c52
        have c52b1 : (t213 != 0) = false := bne_eq_false_iff_eq.mpr c52
        clear c52
        by_cases c53 : t220 = 0
        · rw [if_pos c53] at H
          have c53b0 : (t220 == 0) = true := beq_iff_eq.mpr c53
          have c53b1 : (t220 != 0) = false := bne_eq_false_iff_eq.mpr c53
          clear c53
          by_cases c54 : t227 = 0
          · rw [if_pos c54] at H
            have c54b0 : (t227 == 0) = true := beq_iff_eq.mpr c54
            have c54b1 : (t227 != 0) = false := bne_eq_false_iff_eq.mpr c54
            clear c54
            by_cases c55 : t233 = 0
            · rw [if_pos c55] at H
              have c55b0 : (t233 == 0) = true := beq_iff_eq.mpr c55
              have c55b1 : (t233 != 0) = false := bne_eq_false_iff_eq.mpr c55
              clear c55
              by_cases c56 : t238 = 0
              · rw [if_pos c56] at H
                have c56b0 : (t238 == 0) = true := beq_iff_eq.mpr c56
                have c56b1 : (t238 != 0) = false := bne_eq_false_iff_eq.mpr c56
                clear c56
                have H' := Aside0.mk H
                clear H
                go_wp2
                go_meet
                case rel => exact ⟨_, ((t244 == 0)), (by first | rfl | (simp; done) | (simp [*]; done)), H', ⟨by first | omega | exact Nat.le_refl _⟩, ⟨by repeat (first | (with_reducible first | exact HB.out | apply below_alloc | apply pw_below_drewN | apply below_drew1) | exact HB.out)⟩⟩
              · rw [if_neg c56] at H
                have c56b0 : (t238 == 0) = false := beq_eq_false_iff_ne.mpr c56
                have c56b1 : (t238 != 0) = true := bne_iff_ne.mpr c56
                have H' := Aside0.mk H
                clear H
                go_wp2
                go_meet
                case rel => exact ⟨_, (false), (by first | rfl | (simp; done) | (simp [*]; done)), H', ⟨by first | omega | exact Nat.le_refl _⟩, ⟨by repeat (first | (with_reducible first | exact HB.out | apply below_alloc | apply pw_below_drewN | apply below_drew1) | exact HB.out)⟩⟩
            · rw [if_neg c55] at H
              have c55b0 : (t233 == 0) = false := beq_eq_false_iff_ne.mpr c55
              have c55b1 : (t233 != 0) = true := bne_iff_ne.mpr c55
              have H' := Aside0.mk H
              clear H
              go_wp2
              go_meet
              case rel => exact ⟨_, (false), (by first | rfl | (simp; done) | (simp [*]; done)), H', ⟨by first | omega | exact Nat.le_refl _⟩, ⟨by repeat (first | (with_reducible first | exact HB.out | apply below_alloc | apply pw_below_drewN | apply below_drew1) | exact HB.out)⟩⟩
          · rw [if_neg c54] at H
            have c54b0 : (t227 == 0) = false := beq_eq_false_iff_ne.mpr c54
            have c54b1 : (t227 != 0) = true := bne_iff_ne.mpr c54
            have H' := Aside0.mk H
            clear H
            go_wp2
            go_meet
            case rel => exact ⟨_, (false), (by first | rfl | (simp; done) | (simp [*]; done)), H', ⟨by first | omega | exact Nat.le_refl _⟩, ⟨by repeat (first | (with_reducible first | exact HB.out | apply below_alloc | apply pw_below_drewN | apply below_drew1) | exact HB.out)⟩⟩
        · rw [if_neg c53] at H
          have c53b0 : (t220 == 0) = false := beq_eq_false_iff_ne.mpr c53
          have c53b1 : (t220 != 0) = true := bne_iff_ne.mpr c53
          have H' := Aside0.mk H
          clear H
          go_wp2
          go_meet
          case rel => exact ⟨_, (false), (by first | rfl | (simp; done) | (simp [*]; done)), H', ⟨by first | omega | exact Nat.le_refl _⟩, ⟨by repeat (first | (with_reducible first | exact HB.out | apply below_alloc | apply pw_below_drewN | apply below_drew1) | exact HB.out)⟩⟩
      · rw [if_neg c52] at H
        have c52b0 : (t213 == 0) = false := beq_eq_false_iff_ne.mpr c52
        have c52b1 : (t213 != 0) = true := bne_iff_ne.mpr c52
        have H' := Aside0.mk H
        clear H
        go_wp2
        go_meet
        case rel => exact ⟨_, (false), (by first | rfl | (simp; done) | (simp [*]; done)), H', ⟨by first | omega | exact Nat.le_refl _⟩, ⟨by repeat (first | (with_reducible first | exact HB.out | apply below_alloc | apply pw_below_drewN | apply below_drew1) | exact HB.out)⟩⟩
    · rw [if_neg c51] at H
      have c51b0 : (t203 == 0) = false := beq_eq_false_iff_ne.mpr c51
      have c51b1 : (t203 != 0) = true := bne_iff_ne.mpr c51
      (first | rw [c51b0] | (simp only [i64_w, i32_w]; rw [c51b0]) | skip)
      have H' := Aside0.mk H
      clear H
      go_wp2
      go_meet
      case rel => exact ⟨_, (false), (by first | rfl | (simp; done) | (simp [*]; done)), H', ⟨by first | omega | exact Nat.le_refl _⟩, ⟨by repeat (first | (with_reducible first | exact HB.out | apply below_alloc | apply pw_below_drewN | apply below_drew1) | exact HB.out)⟩⟩
  case rest =>
    clear HC24
    try clear c1
    try clear c2
    try clear p2
    try clear c3
    try clear c4
    try clear c5
    try clear c14
    try clear c16
    try clear c18
    try clear c20
    try clear c23
    try clear c27
    try clear c29
    try clear c32
    try clear c39
    try clear c40
    try clear c51
    try clear c51b0
    try clear c51b1
    try clear c52
    try clear c52b0
    try clear c52b1
    try clear c53
    try clear c53b0
    try clear c53b1
    try clear c54
    try clear c54b0
    try clear c54b1
    try clear c55
    try clear c55b0
    try clear c55b1
    try clear c56
    try clear c56b0
    try clear c56b1
    obtain ⟨kq, x15_23, rfl, HA, HJ23, HB⟩ := hcut
    cases kq with
    | zero => exact absurd HA.out (by simp [windhoverlaw09_awake.j0])
    | succ kj23 =>
      have H := HA.out
      clear HA
      simp only [windhoverlaw09_awake.j0] at H
      have HC57 := Aside0.mk H
      clear H
      go_upto_region 9 with (fail)
      go_cut [0] (fun v0 wc => ∃ (kq : Nat) (x0_56 : Bool), v0 = .bool x0_56 ∧ Aside0 (windhoverlaw09_awake.j1 kq x0_56 = some r) ∧ Aside0 (kq ≤ kj23) ∧ Aside0 (Below w.heap.size w wc))
      case first =>
        have H := HC57.out
        clear HC57
        by_cases c58 : x15_23 = true
        · subst c58
          have H1 : (if t202 = 1 then (if t212 = true then (if t219 = 1 then (if t226 = (-1) then (if t232 = true then (if t237 = 200 then (if t243 = 25 then ((windhoverlaw09_square.f).bind fun t245 => (if 2 ≤ (t245.length : Int) then ((geo_Simple.f kj23 (t245.take 2)).bind fun t252 => (windhoverlaw09_awake.j1 kj23 (t252 == 90))) else (none))) else (windhoverlaw09_awake.j1 kj23 false)) else (windhoverlaw09_awake.j1 kj23 false)) else (windhoverlaw09_awake.j1 kj23 false)) else (windhoverlaw09_awake.j1 kj23 false)) else (windhoverlaw09_awake.j1 kj23 false)) else (windhoverlaw09_awake.j1 kj23 false)) else (windhoverlaw09_awake.j1 kj23 false)) = some r := by rw [if_pos rfl] at H; exact H
          clear H
          have H := H1
          clear H1
          by_cases c59 : t202 = 1
          · rw [if_pos c59] at H
            have c59b0 : (t202 == 1) = true := beq_iff_eq.mpr c59
            have c59b1 : (t202 != 1) = false := bne_eq_false_iff_eq.mpr c59
            clear c59
            (first | rw [c59b0] | (simp only [i64_w, i32_w]; rw [c59b0]) | skip)
            by_cases c60 : t212 = true
            · subst c60
              have H1 : (if t219 = 1 then (if t226 = (-1) then (if t232 = true then (if t237 = 200 then (if t243 = 25 then ((windhoverlaw09_square.f).bind fun t245 => (if 2 ≤ (t245.length : Int) then ((geo_Simple.f kj23 (t245.take 2)).bind fun t252 => (windhoverlaw09_awake.j1 kj23 (t252 == 90))) else (none))) else (windhoverlaw09_awake.j1 kj23 false)) else (windhoverlaw09_awake.j1 kj23 false)) else (windhoverlaw09_awake.j1 kj23 false)) else (windhoverlaw09_awake.j1 kj23 false)) else (windhoverlaw09_awake.j1 kj23 false)) = some r := by rw [if_pos rfl] at H; exact H
              clear H
              have H := H1
              clear H1
              by_cases c61 : t219 = 1
              · rw [if_pos c61] at H
                have c61b0 : (t219 == 1) = true := beq_iff_eq.mpr c61
                have c61b1 : (t219 != 1) = false := bne_eq_false_iff_eq.mpr c61
                clear c61
                by_cases c62 : t226 = (-1)
                · rw [if_pos c62] at H
                  have c62b0 : (t226 == (-1)) = true := beq_iff_eq.mpr c62
                  have c62b1 : (t226 != (-1)) = false := bne_eq_false_iff_eq.mpr c62
                  clear c62
                  by_cases c63 : t232 = true
                  · subst c63
                    have H1 : (if t237 = 200 then (if t243 = 25 then ((windhoverlaw09_square.f).bind fun t245 => (if 2 ≤ (t245.length : Int) then ((geo_Simple.f kj23 (t245.take 2)).bind fun t252 => (windhoverlaw09_awake.j1 kj23 (t252 == 90))) else (none))) else (windhoverlaw09_awake.j1 kj23 false)) else (windhoverlaw09_awake.j1 kj23 false)) = some r := by rw [if_pos rfl] at H; exact H
                    clear H
                    have H := H1
                    clear H1
                    by_cases c64 : t237 = 200
                    · rw [if_pos c64] at H
                      have c64b0 : (t237 == 200) = true := beq_iff_eq.mpr c64
                      have c64b1 : (t237 != 200) = false := bne_eq_false_iff_eq.mpr c64
                      clear c64
                      by_cases c65 : t243 = 25
                      · rw [if_pos c65] at H
                        have c65b0 : (t243 == 25) = true := beq_iff_eq.mpr c65
                        have c65b1 : (t243 != 25) = false := bne_eq_false_iff_eq.mpr c65
                        clear c65
                        replace H := Option.bind_eq_some_iff.mp H
                        obtain ⟨t245, A660, H⟩ := H
                        replace H : (if 2 ≤ (t245.length : Int) then ((geo_Simple.f kj23 (t245.take 2)).bind fun t252 => (windhoverlaw09_awake.j1 kj23 (t252 == 90))) else (none)) = some r := H
                        have A66 := Aside0.mk A660
                        clear A660
                        by_cases c67 : 2 ≤ (t245.length : Int)
                        · rw [if_pos c67] at H
                          have c67b0 := eq_true c67
                          have c67b1 : decide (2 ≤ (t245.length : Int)) = true := decide_eq_true c67
                          clear c67
                          obtain ⟨y248, hy248⟩ : ∃ y_ : List (S23), y_ = (t245.take 2) := ⟨_, rfl⟩
                          replace H : ((geo_Simple.f kj23 y248).bind fun t252 => (windhoverlaw09_awake.j1 kj23 (t252 == 90))) = some r := by first | (rw [hy248]; with_reducible exact H) | (have H2_ := (Option.bind_some _ _).symm.trans H; rw [hy248]; with_reducible exact H2_) | (have H2_ := (Option.bind_some _ _).symm.trans H; with_reducible exact H2_) | with_reducible exact H | (rw [hy248]; exact H) | exact H
                          have Ny248 := Aside0.mk hy248
                          clear hy248
                          replace H := Option.bind_eq_some_iff.mp H
                          obtain ⟨t252, A680, H⟩ := H
                          replace H : (windhoverlaw09_awake.j1 kj23 (t252 == 90)) = some r := H
                          have A68 := Aside0.mk A680
                          clear A680
                          have H' := Aside0.mk H
                          clear H
                          go_wp2_with (first | (go_at_call 40; (with_reducible refine (windhoverlaw09_square.calls  t245 _ A66.out).mono ?_); rintro e w69 ⟨v246, rfl, ho0, hb⟩; have n0_ := Aside0.mk (Kd.R_lower ho0 (below_size (by repeat (first | (with_reducible first | exact HB.out | apply below_alloc | apply pw_below_drewN | apply below_drew1) | exact HB.out)))); have n1_ := Aside0.mk (below_step (by repeat (first | (with_reducible first | exact HB.out | apply below_alloc | apply pw_below_drewN | apply below_drew1) | exact HB.out)) hb); clear HB; have HO247 := n0_; have HB := n1_; clear n0_ n1_; (try clear hb); (try clear hb2); (try clear hk); (try clear hi); (try clear ho0); obtain ⟨Ao71, co71, eo71⟩ := Kd.R_slice HO247.out; subst eo71; have q70 : (2 : Int) ≤ ((t245.length : Int) : Int) := of_decide_eq_true (by first | (with_reducible assumption) | assumption); obtain ⟨i070, hi070, _, hsz70, _⟩ := info_parts info23; have hroom70 : t245.length ≤ co71 := (Kd.R_reads' HO247.out).2.1; have hC70 : Kd.C k23 _ Ao71 t245.length t245 := (Kd.R_reads' HO247.out).2.2; have hcut70 := cut_to (P := Try.prog) 35 23 .i64 Try.underlying35 hi070 Ao71 t245.length co71 2 (by omega) q70 hroom70; have hr70 := Kd.C_take (m := 2) hC70 (by omega); have hy70 : y248.length = (2 : Int).toNat := (by rw [Ny248.out, List.length_take]; omega); rw [← Ny248.out] at hr70; rw [← hy70] at hcut70; have HR251 := Aside0.mk hr70; have HC251 := Aside0.mk (show y248.length ≤ co71 from by omega); clear hr70 hC70 hroom70 hi070 hsz70; have KY70 := Aside0.mk hy70; clear hy70; have KL70 := Aside0.mk (show 2 ≤ t245.length from by omega); replace q70 := eq_true q70) | (go_at_call 22; (with_reducible refine (geo_Simple.calls kj23 _ _ y248 t252 _ ?side1 ?side2 A68.out).mono ?_); (case side1 => repeat (first | exact (by repeat (first | (with_reducible exact HR251.out) | (with_reducible refine Kd.C_alloc ?_ _) | (with_reducible refine Kd.C_drewN ?_ _) | (with_reducible refine Kd.C_drew ?_) | exact HR251.out)) | (with_reducible refine Kd.C_alloc ?_ _) | (with_reducible refine Kd.C_drewN ?_ _) | (with_reducible refine Kd.C_drew ?_))); (case side2 => exact HC251.out); rintro e w72 ⟨rfl, hb⟩; have n0_ := Aside0.mk (Kd.R_below (by (with_reducible repeat (first | apply Kd.R_alloc | apply Kd.R_drewN | apply Kd.R_drew)); exact HO247.out) hb); have n1_ := Aside0.mk (Kd.C_below (by repeat (first | (with_reducible exact HR251.out) | (with_reducible refine Kd.C_alloc ?_ _) | (with_reducible refine Kd.C_drewN ?_ _) | (with_reducible refine Kd.C_drew ?_) | exact HR251.out)) hb); have n2_ := Aside0.mk (below_step (by repeat (first | (with_reducible first | exact HB.out | apply below_alloc | apply pw_below_drewN | apply below_drew1) | exact HB.out)) hb); clear HO247; clear HR251; clear HB; have HO247 := n0_; have HR251 := n1_; have HB := n2_; clear n0_ n1_ n2_; (try clear hb); (try clear hb2); (try clear hk); (try clear hi)))
                          go_meet
                          case rel => exact ⟨_, ((t252 == 90)), (by first | rfl | (simp; done) | (simp [*]; done)), H', ⟨by have := HJ23.out; first | omega | exact Nat.le_refl _⟩, ⟨by repeat (first | (with_reducible first | exact HB.out | apply below_alloc | apply pw_below_drewN | apply below_drew1) | exact HB.out)⟩⟩
                        · rw [if_neg c67] at H
                          exact absurd H (by simp)
                      · rw [if_neg c65] at H
                        have c65b0 : (t243 == 25) = false := beq_eq_false_iff_ne.mpr c65
                        have c65b1 : (t243 != 25) = true := bne_iff_ne.mpr c65
                        have H' := Aside0.mk H
                        clear H
                        go_wp2
                        go_meet
                        case rel => exact ⟨_, (false), (by first | rfl | (simp; done) | (simp [*]; done)), H', ⟨by have := HJ23.out; first | omega | exact Nat.le_refl _⟩, ⟨by repeat (first | (with_reducible first | exact HB.out | apply below_alloc | apply pw_below_drewN | apply below_drew1) | exact HB.out)⟩⟩
                    · rw [if_neg c64] at H
                      have c64b0 : (t237 == 200) = false := beq_eq_false_iff_ne.mpr c64
                      have c64b1 : (t237 != 200) = true := bne_iff_ne.mpr c64
                      have H' := Aside0.mk H
                      clear H
                      go_wp2
                      go_meet
                      case rel => exact ⟨_, (false), (by first | rfl | (simp; done) | (simp [*]; done)), H', ⟨by have := HJ23.out; first | omega | exact Nat.le_refl _⟩, ⟨by repeat (first | (with_reducible first | exact HB.out | apply below_alloc | apply pw_below_drewN | apply below_drew1) | exact HB.out)⟩⟩
                  · replace c63 := Bool.eq_false_iff.mpr c63
                    subst c63
                    have H1 : (windhoverlaw09_awake.j1 kj23 false) = some r := by rw [if_neg (show ¬ (false = true) by decide)] at H; exact H
                    clear H
                    have H := H1
                    clear H1
                    have H' := Aside0.mk H
                    clear H
                    go_wp2
                    go_meet
                    case rel => exact ⟨_, (false), (by first | rfl | (simp; done) | (simp [*]; done)), H', ⟨by have := HJ23.out; first | omega | exact Nat.le_refl _⟩, ⟨by repeat (first | (with_reducible first | exact HB.out | apply below_alloc | apply pw_below_drewN | apply below_drew1) | exact HB.out)⟩⟩
                · rw [if_neg c62] at H
                  have c62b0 : (t226 == (-1)) = false := beq_eq_false_iff_ne.mpr c62
                  have c62b1 : (t226 != (-1)) = true := bne_iff_ne.mpr c62
                  have H' := Aside0.mk H
                  clear H
                  go_wp2
                  go_meet
                  case rel => exact ⟨_, (false), (by first | rfl | (simp; done) | (simp [*]; done)), H', ⟨by have := HJ23.out; first | omega | exact Nat.le_refl _⟩, ⟨by repeat (first | (with_reducible first | exact HB.out | apply below_alloc | apply pw_below_drewN | apply below_drew1) | exact HB.out)⟩⟩
              · rw [if_neg c61] at H
                have c61b0 : (t219 == 1) = false := beq_eq_false_iff_ne.mpr c61
                have c61b1 : (t219 != 1) = true := bne_iff_ne.mpr c61
                have H' := Aside0.mk H
                clear H
                go_wp2
                go_meet
                case rel => exact ⟨_, (false), (by first | rfl | (simp; done) | (simp [*]; done)), H', ⟨by have := HJ23.out; first | omega | exact Nat.le_refl _⟩, ⟨by repeat (first | (with_reducible first | exact HB.out | apply below_alloc | apply pw_below_drewN | apply below_drew1) | exact HB.out)⟩⟩
            · replace c60 := Bool.eq_false_iff.mpr c60
              subst c60
              have H1 : (windhoverlaw09_awake.j1 kj23 false) = some r := by rw [if_neg (show ¬ (false = true) by decide)] at H; exact H
              clear H
              have H := H1
              clear H1
              have H' := Aside0.mk H
              clear H
              go_wp2
              go_meet
              case rel => exact ⟨_, (false), (by first | rfl | (simp; done) | (simp [*]; done)), H', ⟨by have := HJ23.out; first | omega | exact Nat.le_refl _⟩, ⟨by repeat (first | (with_reducible first | exact HB.out | apply below_alloc | apply pw_below_drewN | apply below_drew1) | exact HB.out)⟩⟩
          · rw [if_neg c59] at H
            have c59b0 : (t202 == 1) = false := beq_eq_false_iff_ne.mpr c59
            have c59b1 : (t202 != 1) = true := bne_iff_ne.mpr c59
            (first | rw [c59b0] | (simp only [i64_w, i32_w]; rw [c59b0]) | skip)
            have H' := Aside0.mk H
            clear H
            go_wp2
            go_meet
            case rel => exact ⟨_, (false), (by first | rfl | (simp; done) | (simp [*]; done)), H', ⟨by have := HJ23.out; first | omega | exact Nat.le_refl _⟩, ⟨by repeat (first | (with_reducible first | exact HB.out | apply below_alloc | apply pw_below_drewN | apply below_drew1) | exact HB.out)⟩⟩
        · replace c58 := Bool.eq_false_iff.mpr c58
          subst c58
          have H1 : (windhoverlaw09_awake.j1 kj23 false) = some r := by rw [if_neg (show ¬ (false = true) by decide)] at H; exact H
          clear H
          have H := H1
          clear H1
          have H' := Aside0.mk H
          clear H
          go_wp2
          go_meet
          case rel => exact ⟨_, (false), (by first | rfl | (simp; done) | (simp [*]; done)), H', ⟨by have := HJ23.out; first | omega | exact Nat.le_refl _⟩, ⟨by repeat (first | (with_reducible first | exact HB.out | apply below_alloc | apply pw_below_drewN | apply below_drew1) | exact HB.out)⟩⟩
      case rest =>
        clear HC57
        try clear c1
        try clear c2
        try clear p2
        try clear c3
        try clear c4
        try clear c5
        try clear c6
        try clear q7
        try clear c14
        try clear c16
        try clear c18
        try clear c20
        try clear c23
        try clear c27
        try clear c29
        try clear c32
        try clear c39
        try clear c40
        try clear c51
        try clear c51b0
        try clear c51b1
        try clear c52
        try clear c52b0
        try clear c52b1
        try clear c53
        try clear c53b0
        try clear c53b1
        try clear c54
        try clear c54b0
        try clear c54b1
        try clear c55
        try clear c55b0
        try clear c55b1
        try clear c56
        try clear c56b0
        try clear c56b1
        try clear c58
        try clear c59
        try clear c59b0
        try clear c59b1
        try clear c60
        try clear c61
        try clear c61b0
        try clear c61b1
        try clear c62
        try clear c62b0
        try clear c62b1
        try clear c63
        try clear c64
        try clear c64b0
        try clear c64b1
        try clear c65
        try clear c65b0
        try clear c65b1
        try clear c67
        try clear c67b0
        try clear c67b1
        try clear q70
        try clear p2
        try clear q70
        obtain ⟨kq, x0_56, rfl, HA, HJ56, HB⟩ := hcut
        cases kq with
        | zero => exact absurd HA.out (by simp [windhoverlaw09_awake.j1])
        | succ kj56 =>
          have H := HA.out
          clear HA
          simp only [windhoverlaw09_awake.j1] at H
          obtain rfl := Option.some.inj H
          go_wp2
          go_ret
          exact ⟨by first | rfl | (simp [errW_none, errW_some] <;> rfl) | (simp [*, errW_none, errW_some] <;> rfl), by repeat (first | (with_reducible first | exact HB.out | apply below_alloc | apply pw_below_drewN | apply below_drew1) | exact HB.out)⟩

/-! ### windhoverlaw09_GeoOrients: function 3 -/
def windhoverlaw09_GeoOrients.j0 : Nat → Bool → Option (Bool)
  | 0, _ => none
  | k + 1, x6 => some x6
def windhoverlaw09_GeoOrients.f (k : Nat) (a0_0 : Int) (a0_1 : Int) (a1_0 : Int) (a1_1 : Int) (a2_0 : Int) (a2_1 : Int) : Option (Bool) := (geo_Orient.f a0_0 a0_1 a1_0 a1_1 a2_0 a2_1).bind fun bt256 => ((windhoverref09_Orient.f k a0_0 a0_1 a1_0 a1_1 a2_0 a2_1).bind fun bt258 => ((geo_Far.f a0_0 a0_1 a1_0 a1_1).bind fun bt260 => ((windhoverref09_Far.f k a0_0 a0_1 a1_0 a1_1).bind fun bt262 => ((windhoverlaw09_awake.f k).bind fun t264 => (if t264 = true then (if bt256.1 = bt258.1 then (if bt256.2 = bt258.2 then (if bt260.1 = bt262.1 then (windhoverlaw09_GeoOrients.j0 k (bt260.2 == bt262.2)) else (windhoverlaw09_GeoOrients.j0 k false)) else (windhoverlaw09_GeoOrients.j0 k false)) else (windhoverlaw09_GeoOrients.j0 k false)) else (windhoverlaw09_GeoOrients.j0 k false))))))
theorem windhoverlaw09_GeoOrients.mono_l : ∀ k, (∀ y0, LeO (windhoverlaw09_GeoOrients.j0 k y0) (windhoverlaw09_GeoOrients.j0 (k + 1) y0))
  | 0 => fun _ r h => by simp [windhoverlaw09_GeoOrients.j0] at h
  | k + 1 => by
    have ih0 := windhoverlaw09_GeoOrients.mono_l k
    · intro y0
      unfold windhoverlaw09_GeoOrients.j0
      repeat' first
      | (with_reducible exact ih0 _)
      | (with_reducible exact windhoverlaw09_awake.mono _)
      | (with_reducible exact windhoverref09_Far.mono _ _ _ _ _)
      | (with_reducible exact windhoverref09_Orient.mono _ _ _ _ _ _ _)
      | (with_reducible exact LeO.refl _)
      | (with_reducible exact LeO.none _)
      | (with_reducible refine LeO.ite ?_ ?_)
      | (with_reducible refine LeO.bind ?_ (fun _ => ?_))
      | exact ih0 _
      | exact windhoverlaw09_awake.mono _
      | exact windhoverref09_Far.mono _ _ _ _ _
      | exact windhoverref09_Orient.mono _ _ _ _ _ _ _
      | exact LeO.none _
      | refine LeO.ite ?_ ?_
      | refine LeO.bind ?_ (fun _ => ?_)
theorem windhoverlaw09_GeoOrients.mono : ∀ a0 a1 a2 a3 a4 a5 k, LeO (windhoverlaw09_GeoOrients.f k a0 a1 a2 a3 a4 a5) (windhoverlaw09_GeoOrients.f (k + 1) a0 a1 a2 a3 a4 a5) := by
  intro a0 a1 a2 a3 a4 a5 k
  have ih0 := windhoverlaw09_GeoOrients.mono_l k
  unfold windhoverlaw09_GeoOrients.f
  repeat' first
      | (with_reducible exact ih0 _)
      | (with_reducible exact windhoverlaw09_awake.mono _)
      | (with_reducible exact windhoverref09_Far.mono _ _ _ _ _)
      | (with_reducible exact windhoverref09_Orient.mono _ _ _ _ _ _ _)
      | (with_reducible exact LeO.refl _)
      | (with_reducible exact LeO.none _)
      | (with_reducible refine LeO.ite ?_ ?_)
      | (with_reducible refine LeO.bind ?_ (fun _ => ?_))
      | exact ih0 _
      | exact windhoverlaw09_awake.mono _
      | exact windhoverref09_Far.mono _ _ _ _ _
      | exact windhoverref09_Orient.mono _ _ _ _ _ _ _
      | exact LeO.none _
      | refine LeO.ite ?_ ?_
      | refine LeO.bind ?_ (fun _ => ?_)
set_option maxHeartbeats 8000000 in
set_option maxRecDepth 100000 in
theorem windhoverlaw09_GeoOrients.calls (k : Nat) (a0_0 : Int) (a0_1 : Int) (a1_0 : Int) (a1_1 : Int) (a2_0 : Int) (a2_1 : Int) (r : Bool) (w : World) (h : windhoverlaw09_GeoOrients.f k a0_0 a0_1 a1_0 a1_1 a2_0 a2_1 = some r) :
    Calls Try.prog 3 #[.agg #[.int .i64 a0_0, .int .i64 a0_1], .agg #[.int .i64 a1_0, .int .i64 a1_1], .agg #[.int .i64 a2_0, .int .i64 a2_1]] w fun e w' => e = .returned (.bool r) ∧ Below w.heap.size w w' := by
  have hu23 := Try.underlying23
  have HB := Aside0.mk (Below.refl w.heap.size w)
  have H : ((geo_Orient.f a0_0 a0_1 a1_0 a1_1 a2_0 a2_1).bind fun bt256 => ((windhoverref09_Orient.f k a0_0 a0_1 a1_0 a1_1 a2_0 a2_1).bind fun bt258 => ((geo_Far.f a0_0 a0_1 a1_0 a1_1).bind fun bt260 => ((windhoverref09_Far.f k a0_0 a0_1 a1_0 a1_1).bind fun bt262 => ((windhoverlaw09_awake.f k).bind fun t264 => (if t264 = true then (if bt256.1 = bt258.1 then (if bt256.2 = bt258.2 then (if bt260.1 = bt262.1 then (windhoverlaw09_GeoOrients.j0 k (bt260.2 == bt262.2)) else (windhoverlaw09_GeoOrients.j0 k false)) else (windhoverlaw09_GeoOrients.j0 k false)) else (windhoverlaw09_GeoOrients.j0 k false)) else (windhoverlaw09_GeoOrients.j0 k false))))))) = some r := h
  clear h
  replace H := Option.bind_eq_some_iff.mp H
  obtain ⟨⟨t256, t257⟩, A40, H⟩ := H
  replace H : ((windhoverref09_Orient.f k a0_0 a0_1 a1_0 a1_1 a2_0 a2_1).bind fun bt258 => ((geo_Far.f a0_0 a0_1 a1_0 a1_1).bind fun bt260 => ((windhoverref09_Far.f k a0_0 a0_1 a1_0 a1_1).bind fun bt262 => ((windhoverlaw09_awake.f k).bind fun t264 => (if t264 = true then (if t256 = bt258.1 then (if t257 = bt258.2 then (if bt260.1 = bt262.1 then (windhoverlaw09_GeoOrients.j0 k (bt260.2 == bt262.2)) else (windhoverlaw09_GeoOrients.j0 k false)) else (windhoverlaw09_GeoOrients.j0 k false)) else (windhoverlaw09_GeoOrients.j0 k false)) else (windhoverlaw09_GeoOrients.j0 k false)))))) = some r := H
  have A4 := Aside0.mk A40
  clear A40
  replace H := Option.bind_eq_some_iff.mp H
  obtain ⟨⟨t258, t259⟩, A50, H⟩ := H
  replace H : ((geo_Far.f a0_0 a0_1 a1_0 a1_1).bind fun bt260 => ((windhoverref09_Far.f k a0_0 a0_1 a1_0 a1_1).bind fun bt262 => ((windhoverlaw09_awake.f k).bind fun t264 => (if t264 = true then (if t256 = t258 then (if t257 = t259 then (if bt260.1 = bt262.1 then (windhoverlaw09_GeoOrients.j0 k (bt260.2 == bt262.2)) else (windhoverlaw09_GeoOrients.j0 k false)) else (windhoverlaw09_GeoOrients.j0 k false)) else (windhoverlaw09_GeoOrients.j0 k false)) else (windhoverlaw09_GeoOrients.j0 k false))))) = some r := H
  have A5 := Aside0.mk A50
  clear A50
  replace H := Option.bind_eq_some_iff.mp H
  obtain ⟨⟨t260, t261⟩, A60, H⟩ := H
  replace H : ((windhoverref09_Far.f k a0_0 a0_1 a1_0 a1_1).bind fun bt262 => ((windhoverlaw09_awake.f k).bind fun t264 => (if t264 = true then (if t256 = t258 then (if t257 = t259 then (if t260 = bt262.1 then (windhoverlaw09_GeoOrients.j0 k (t261 == bt262.2)) else (windhoverlaw09_GeoOrients.j0 k false)) else (windhoverlaw09_GeoOrients.j0 k false)) else (windhoverlaw09_GeoOrients.j0 k false)) else (windhoverlaw09_GeoOrients.j0 k false)))) = some r := H
  have A6 := Aside0.mk A60
  clear A60
  replace H := Option.bind_eq_some_iff.mp H
  obtain ⟨⟨t262, t263⟩, A70, H⟩ := H
  replace H : ((windhoverlaw09_awake.f k).bind fun t264 => (if t264 = true then (if t256 = t258 then (if t257 = t259 then (if t260 = t262 then (windhoverlaw09_GeoOrients.j0 k (t261 == t263)) else (windhoverlaw09_GeoOrients.j0 k false)) else (windhoverlaw09_GeoOrients.j0 k false)) else (windhoverlaw09_GeoOrients.j0 k false)) else (windhoverlaw09_GeoOrients.j0 k false))) = some r := H
  have A7 := Aside0.mk A70
  clear A70
  have HC8 := Aside0.mk H
  clear H
  go_enter Try.func3, Try.ntmps3
  go_upto_region 5 with (first | ((with_reducible refine gate_dst (N := 3) rfl ?_); refine box_event ?hg (N := 3) ?hd (cs := #[.int .i64 a0_0, .int .i64 a0_1]) (t := 23) ?hr ?_; (case hd => rfl); (case hg => rfl); (case hr => first | (go_simp; done) | (go_simp; rfl)); intro gb253 hg w9 hbox hb; have n0_ := Aside0.mk (below_step (by repeat (first | (with_reducible first | exact HB.out | apply below_alloc | apply pw_below_drewN | apply below_drew1) | exact HB.out)) hb); have n1_ := Aside0.mk (hbox); have n2_ := Aside0.mk ((by rw [hg]; exact (below_size (by repeat (first | (with_reducible first | exact HB.out | apply below_alloc | apply pw_below_drewN | apply below_drew1) | exact HB.out))) : w.heap.size ≤ gb253)); have n3_ := Aside0.mk ((by rw [hg]; exact (below_size (by repeat (first | (with_reducible first | exact HB.out | apply below_alloc | apply pw_below_drewN | apply below_drew1) | exact HB.out))) : w.heap.size ≤ gb253)); clear HB; have HB := n0_; have BK253 := n1_; have GW253 := n2_; have GE253 := n3_; clear n0_ n1_ n2_ n3_; clear hb hbox hg) | ((with_reducible refine gate_dst (N := 4) rfl ?_); refine box_event ?hg (N := 4) ?hd (cs := #[.int .i64 a1_0, .int .i64 a1_1]) (t := 23) ?hr ?_; (case hd => rfl); (case hg => rfl); (case hr => first | (go_simp; done) | (go_simp; rfl)); intro gb254 hg w10 hbox hb; have n0_ := Aside0.mk (blk_below (g := gb253) (o := .cells #[.int .i64 a0_0, .int .i64 a0_1] 23 (0, 0)) (by (with_reducible repeat (first | refine blk_drewN ?_ _ | refine blk_drew ?_ | refine blk_alloc ?_ _)); exact BK253.out) hb); have n1_ := Aside0.mk (below_step (by repeat (first | (with_reducible first | exact HB.out | apply below_alloc | apply pw_below_drewN | apply below_drew1 | refine below_set ?_ GE253.out) | exact HB.out)) hb); have n2_ := Aside0.mk (hbox); have n3_ := Aside0.mk ((by rw [hg]; exact (below_size (by repeat (first | (with_reducible first | exact HB.out | apply below_alloc | apply pw_below_drewN | apply below_drew1 | refine below_set ?_ GE253.out) | exact HB.out))) : w.heap.size ≤ gb254)); have n4_ := Aside0.mk ((by rw [hg]; exact (below_size (by repeat (first | (with_reducible first | exact HB.out | apply below_alloc | apply pw_below_drewN | apply below_drew1 | refine below_set ?_ GE253.out) | exact HB.out))) : w.heap.size ≤ gb254)); have n5_ := Aside0.mk ((by rw [hg]; exact Nat.ne_of_lt (blk_lt (g := gb253) (o := .cells #[.int .i64 a0_0, .int .i64 a0_1] 23 (0, 0)) (by (with_reducible repeat (first | refine blk_drewN ?_ _ | refine blk_drew ?_ | refine blk_alloc ?_ _)); exact BK253.out)) : gb253 ≠ gb254)); have n6_ := Aside0.mk ((by rw [hg]; exact Nat.ne_of_gt (blk_lt (g := gb253) (o := .cells #[.int .i64 a0_0, .int .i64 a0_1] 23 (0, 0)) (by (with_reducible repeat (first | refine blk_drewN ?_ _ | refine blk_drew ?_ | refine blk_alloc ?_ _)); exact BK253.out)) : gb254 ≠ gb253)); clear BK253; clear HB; have BK253 := n0_; have HB := n1_; have BK254 := n2_; have GW254 := n3_; have GE254 := n4_; have NB253_254 := n5_; have NB254_253 := n6_; clear n0_ n1_ n2_ n3_ n4_ n5_ n6_; clear hb hbox hg) | ((with_reducible refine gate_dst (N := 5) rfl ?_); refine box_event ?hg (N := 5) ?hd (cs := #[.int .i64 a2_0, .int .i64 a2_1]) (t := 23) ?hr ?_; (case hd => rfl); (case hg => rfl); (case hr => first | (go_simp; done) | (go_simp; rfl)); intro gb255 hg w11 hbox hb; have n0_ := Aside0.mk (blk_below (g := gb253) (o := .cells #[.int .i64 a0_0, .int .i64 a0_1] 23 (0, 0)) (by (with_reducible repeat (first | refine blk_drewN ?_ _ | refine blk_drew ?_ | refine blk_alloc ?_ _)); exact BK253.out) hb); have n1_ := Aside0.mk (blk_below (g := gb254) (o := .cells #[.int .i64 a1_0, .int .i64 a1_1] 23 (0, 0)) (by (with_reducible repeat (first | refine blk_drewN ?_ _ | refine blk_drew ?_ | refine blk_alloc ?_ _)); exact BK254.out) hb); have n2_ := Aside0.mk (below_step (by repeat (first | (with_reducible first | exact HB.out | apply below_alloc | apply pw_below_drewN | apply below_drew1 | refine below_set ?_ GE253.out | refine below_set ?_ GE254.out) | exact HB.out)) hb); have n3_ := Aside0.mk (hbox); have n4_ := Aside0.mk ((by rw [hg]; exact (below_size (by repeat (first | (with_reducible first | exact HB.out | apply below_alloc | apply pw_below_drewN | apply below_drew1 | refine below_set ?_ GE253.out | refine below_set ?_ GE254.out) | exact HB.out))) : w.heap.size ≤ gb255)); have n5_ := Aside0.mk ((by rw [hg]; exact (below_size (by repeat (first | (with_reducible first | exact HB.out | apply below_alloc | apply pw_below_drewN | apply below_drew1 | refine below_set ?_ GE253.out | refine below_set ?_ GE254.out) | exact HB.out))) : w.heap.size ≤ gb255)); have n6_ := Aside0.mk ((by rw [hg]; exact Nat.ne_of_lt (blk_lt (g := gb253) (o := .cells #[.int .i64 a0_0, .int .i64 a0_1] 23 (0, 0)) (by (with_reducible repeat (first | refine blk_drewN ?_ _ | refine blk_drew ?_ | refine blk_alloc ?_ _)); exact BK253.out)) : gb253 ≠ gb255)); have n7_ := Aside0.mk ((by rw [hg]; exact Nat.ne_of_gt (blk_lt (g := gb253) (o := .cells #[.int .i64 a0_0, .int .i64 a0_1] 23 (0, 0)) (by (with_reducible repeat (first | refine blk_drewN ?_ _ | refine blk_drew ?_ | refine blk_alloc ?_ _)); exact BK253.out)) : gb255 ≠ gb253)); have n8_ := Aside0.mk ((by rw [hg]; exact Nat.ne_of_lt (blk_lt (g := gb254) (o := .cells #[.int .i64 a1_0, .int .i64 a1_1] 23 (0, 0)) (by (with_reducible repeat (first | refine blk_drewN ?_ _ | refine blk_drew ?_ | refine blk_alloc ?_ _)); exact BK254.out)) : gb254 ≠ gb255)); have n9_ := Aside0.mk ((by rw [hg]; exact Nat.ne_of_gt (blk_lt (g := gb254) (o := .cells #[.int .i64 a1_0, .int .i64 a1_1] 23 (0, 0)) (by (with_reducible repeat (first | refine blk_drewN ?_ _ | refine blk_drew ?_ | refine blk_alloc ?_ _)); exact BK254.out)) : gb255 ≠ gb254)); clear BK253; clear BK254; clear HB; have BK253 := n0_; have BK254 := n1_; have HB := n2_; have BK255 := n3_; have GW255 := n4_; have GE255 := n5_; have NB253_255 := n6_; have NB255_253 := n7_; have NB254_255 := n8_; have NB255_254 := n9_; clear n0_ n1_ n2_ n3_ n4_ n5_ n6_ n7_ n8_ n9_; clear hb hbox hg; have hnb12 := NB253_254.out; have hnc12 := NB254_253.out; have hnb13 := NB253_255.out; have hnc13 := NB255_253.out; have hcz14_0 : w11.cell? ⟨gb253, 0, none⟩ = some (.int .i64 a0_0) := (blk_cell BK253.out 0).trans rfl; have hcz14_1 : w11.cell? ⟨gb253, 1, none⟩ = some (.int .i64 a0_1) := (blk_cell BK253.out 1).trans rfl; have hfz14_0 := blk_frozen BK253.out 0; have hfz14_1 := blk_frozen BK253.out 1; have hnb15 := NB254_255.out; have hnc15 := NB255_254.out; have hcz16_0 : w11.cell? ⟨gb254, 0, none⟩ = some (.int .i64 a1_0) := (blk_cell BK254.out 0).trans rfl; have hcz16_1 : w11.cell? ⟨gb254, 1, none⟩ = some (.int .i64 a1_1) := (blk_cell BK254.out 1).trans rfl; have hfz16_0 := blk_frozen BK254.out 0; have hfz16_1 := blk_frozen BK254.out 1; have hcz17_0 : w11.cell? ⟨gb255, 0, none⟩ = some (.int .i64 a2_0) := (blk_cell BK255.out 0).trans rfl; have hcz17_1 : w11.cell? ⟨gb255, 1, none⟩ = some (.int .i64 a2_1) := (blk_cell BK255.out 1).trans rfl; have hfz17_0 := blk_frozen BK255.out 0; have hfz17_1 := blk_frozen BK255.out 1) | ((with_reducible refine gate_callee (f := 14) rfl ?_); refine goesL_ (some 19) rfl rfl Try.func14 (by kernel_rfl) rfl #[.agg #[.int .i64 a0_0, .int .i64 a0_1], .agg #[.int .i64 a1_0, .int .i64 a1_1], .agg #[.int .i64 a2_0, .int .i64 a2_1]] rfl (by (try simp only [List.map_toArray, List.map_cons, List.map_nil]); first | done | rfl | (simp only [List.length_drop, List.length_take]; rfl)) ?_; (with_reducible refine (geo_Orient.calls a0_0 a0_1 a1_0 a1_1 a2_0 a2_1 t256 t257 _ A4.out).mono ?_); rintro e w18 ⟨rfl, hb⟩; refine ⟨_, rfl, ?_⟩; have n0_ := Aside0.mk (blk_below (g := gb253) (o := .cells #[.int .i64 a0_0, .int .i64 a0_1] 23 (0, 0)) (by (with_reducible repeat (first | refine blk_drewN ?_ _ | refine blk_drew ?_ | refine blk_alloc ?_ _)); exact BK253.out) hb); have n1_ := Aside0.mk (blk_below (g := gb254) (o := .cells #[.int .i64 a1_0, .int .i64 a1_1] 23 (0, 0)) (by (with_reducible repeat (first | refine blk_drewN ?_ _ | refine blk_drew ?_ | refine blk_alloc ?_ _)); exact BK254.out) hb); have n2_ := Aside0.mk (blk_below (g := gb255) (o := .cells #[.int .i64 a2_0, .int .i64 a2_1] 23 (0, 0)) (by (with_reducible repeat (first | refine blk_drewN ?_ _ | refine blk_drew ?_ | refine blk_alloc ?_ _)); exact BK255.out) hb); have n3_ := Aside0.mk (below_step (by repeat (first | (with_reducible first | exact HB.out | apply below_alloc | apply pw_below_drewN | apply below_drew1 | refine below_set ?_ GE253.out | refine below_set ?_ GE254.out | refine below_set ?_ GE255.out) | exact HB.out)) hb); clear BK253; clear BK254; clear BK255; clear HB; have BK253 := n0_; have BK254 := n1_; have BK255 := n2_; have HB := n3_; clear n0_ n1_ n2_ n3_; (try clear hb); (try clear hb2); (try clear hk); (try clear hi); have hcz19_0 : w18.cell? ⟨gb253, 0, none⟩ = some (.int .i64 a0_0) := (blk_cell BK253.out 0).trans rfl; have hcz19_1 : w18.cell? ⟨gb253, 1, none⟩ = some (.int .i64 a0_1) := (blk_cell BK253.out 1).trans rfl; have hfz19_0 := blk_frozen BK253.out 0; have hfz19_1 := blk_frozen BK253.out 1; have hcz20_0 : w18.cell? ⟨gb254, 0, none⟩ = some (.int .i64 a1_0) := (blk_cell BK254.out 0).trans rfl; have hcz20_1 : w18.cell? ⟨gb254, 1, none⟩ = some (.int .i64 a1_1) := (blk_cell BK254.out 1).trans rfl; have hfz20_0 := blk_frozen BK254.out 0; have hfz20_1 := blk_frozen BK254.out 1; have hcz21_0 : w18.cell? ⟨gb255, 0, none⟩ = some (.int .i64 a2_0) := (blk_cell BK255.out 0).trans rfl; have hcz21_1 : w18.cell? ⟨gb255, 1, none⟩ = some (.int .i64 a2_1) := (blk_cell BK255.out 1).trans rfl; have hfz21_0 := blk_frozen BK255.out 0; have hfz21_1 := blk_frozen BK255.out 1) | ((with_reducible refine gate_callee (f := 15) rfl ?_); refine goesL_ (some 26) rfl rfl Try.func15 (by kernel_rfl) rfl #[.agg #[.int .i64 a0_0, .int .i64 a0_1], .agg #[.int .i64 a1_0, .int .i64 a1_1], .agg #[.int .i64 a2_0, .int .i64 a2_1]] rfl (by (try simp only [List.map_toArray, List.map_cons, List.map_nil]); first | done | rfl | (simp only [List.length_drop, List.length_take]; rfl)) ?_; (with_reducible refine (windhoverref09_Orient.calls k a0_0 a0_1 a1_0 a1_1 a2_0 a2_1 t258 t259 _ A5.out).mono ?_); rintro e w22 ⟨rfl, hb⟩; refine ⟨_, rfl, ?_⟩; have n0_ := Aside0.mk (blk_below (g := gb253) (o := .cells #[.int .i64 a0_0, .int .i64 a0_1] 23 (0, 0)) (by (with_reducible repeat (first | refine blk_drewN ?_ _ | refine blk_drew ?_ | refine blk_alloc ?_ _)); exact BK253.out) hb); have n1_ := Aside0.mk (blk_below (g := gb254) (o := .cells #[.int .i64 a1_0, .int .i64 a1_1] 23 (0, 0)) (by (with_reducible repeat (first | refine blk_drewN ?_ _ | refine blk_drew ?_ | refine blk_alloc ?_ _)); exact BK254.out) hb); have n2_ := Aside0.mk (blk_below (g := gb255) (o := .cells #[.int .i64 a2_0, .int .i64 a2_1] 23 (0, 0)) (by (with_reducible repeat (first | refine blk_drewN ?_ _ | refine blk_drew ?_ | refine blk_alloc ?_ _)); exact BK255.out) hb); have n3_ := Aside0.mk (below_step (by repeat (first | (with_reducible first | exact HB.out | apply below_alloc | apply pw_below_drewN | apply below_drew1 | refine below_set ?_ GE253.out | refine below_set ?_ GE254.out | refine below_set ?_ GE255.out) | exact HB.out)) hb); clear BK253; clear BK254; clear BK255; clear HB; have BK253 := n0_; have BK254 := n1_; have BK255 := n2_; have HB := n3_; clear n0_ n1_ n2_ n3_; (try clear hb); (try clear hb2); (try clear hk); (try clear hi); have hcz23_0 : w22.cell? ⟨gb253, 0, none⟩ = some (.int .i64 a0_0) := (blk_cell BK253.out 0).trans rfl; have hcz23_1 : w22.cell? ⟨gb253, 1, none⟩ = some (.int .i64 a0_1) := (blk_cell BK253.out 1).trans rfl; have hfz23_0 := blk_frozen BK253.out 0; have hfz23_1 := blk_frozen BK253.out 1; have hcz24_0 : w22.cell? ⟨gb254, 0, none⟩ = some (.int .i64 a1_0) := (blk_cell BK254.out 0).trans rfl; have hcz24_1 : w22.cell? ⟨gb254, 1, none⟩ = some (.int .i64 a1_1) := (blk_cell BK254.out 1).trans rfl; have hfz24_0 := blk_frozen BK254.out 0; have hfz24_1 := blk_frozen BK254.out 1) | ((with_reducible refine gate_callee (f := 16) rfl ?_); refine goesL_ (some 32) rfl rfl Try.func16 (by kernel_rfl) rfl #[.agg #[.int .i64 a0_0, .int .i64 a0_1], .agg #[.int .i64 a1_0, .int .i64 a1_1]] rfl (by (try simp only [List.map_toArray, List.map_cons, List.map_nil]); first | done | rfl | (simp only [List.length_drop, List.length_take]; rfl)) ?_; (with_reducible refine (geo_Far.calls a0_0 a0_1 a1_0 a1_1 t260 t261 _ A6.out).mono ?_); rintro e w25 ⟨rfl, hb⟩; refine ⟨_, rfl, ?_⟩; have n0_ := Aside0.mk (blk_below (g := gb253) (o := .cells #[.int .i64 a0_0, .int .i64 a0_1] 23 (0, 0)) (by (with_reducible repeat (first | refine blk_drewN ?_ _ | refine blk_drew ?_ | refine blk_alloc ?_ _)); exact BK253.out) hb); have n1_ := Aside0.mk (blk_below (g := gb254) (o := .cells #[.int .i64 a1_0, .int .i64 a1_1] 23 (0, 0)) (by (with_reducible repeat (first | refine blk_drewN ?_ _ | refine blk_drew ?_ | refine blk_alloc ?_ _)); exact BK254.out) hb); have n2_ := Aside0.mk (blk_below (g := gb255) (o := .cells #[.int .i64 a2_0, .int .i64 a2_1] 23 (0, 0)) (by (with_reducible repeat (first | refine blk_drewN ?_ _ | refine blk_drew ?_ | refine blk_alloc ?_ _)); exact BK255.out) hb); have n3_ := Aside0.mk (below_step (by repeat (first | (with_reducible first | exact HB.out | apply below_alloc | apply pw_below_drewN | apply below_drew1 | refine below_set ?_ GE253.out | refine below_set ?_ GE254.out | refine below_set ?_ GE255.out) | exact HB.out)) hb); clear BK253; clear BK254; clear BK255; clear HB; have BK253 := n0_; have BK254 := n1_; have BK255 := n2_; have HB := n3_; clear n0_ n1_ n2_ n3_; (try clear hb); (try clear hb2); (try clear hk); (try clear hi); have hcz26_0 : w25.cell? ⟨gb253, 0, none⟩ = some (.int .i64 a0_0) := (blk_cell BK253.out 0).trans rfl; have hcz26_1 : w25.cell? ⟨gb253, 1, none⟩ = some (.int .i64 a0_1) := (blk_cell BK253.out 1).trans rfl; have hfz26_0 := blk_frozen BK253.out 0; have hfz26_1 := blk_frozen BK253.out 1; have hcz27_0 : w25.cell? ⟨gb254, 0, none⟩ = some (.int .i64 a1_0) := (blk_cell BK254.out 0).trans rfl; have hcz27_1 : w25.cell? ⟨gb254, 1, none⟩ = some (.int .i64 a1_1) := (blk_cell BK254.out 1).trans rfl; have hfz27_0 := blk_frozen BK254.out 0; have hfz27_1 := blk_frozen BK254.out 1) | ((with_reducible refine gate_callee (f := 17) rfl ?_); refine goesL_ (some 38) rfl rfl Try.func17 (by kernel_rfl) rfl #[.agg #[.int .i64 a0_0, .int .i64 a0_1], .agg #[.int .i64 a1_0, .int .i64 a1_1]] rfl (by (try simp only [List.map_toArray, List.map_cons, List.map_nil]); first | done | rfl | (simp only [List.length_drop, List.length_take]; rfl)) ?_; (with_reducible refine (windhoverref09_Far.calls k a0_0 a0_1 a1_0 a1_1 t262 t263 _ A7.out).mono ?_); rintro e w28 ⟨rfl, hb⟩; refine ⟨_, rfl, ?_⟩; have n0_ := Aside0.mk (blk_below (g := gb253) (o := .cells #[.int .i64 a0_0, .int .i64 a0_1] 23 (0, 0)) (by (with_reducible repeat (first | refine blk_drewN ?_ _ | refine blk_drew ?_ | refine blk_alloc ?_ _)); exact BK253.out) hb); have n1_ := Aside0.mk (blk_below (g := gb254) (o := .cells #[.int .i64 a1_0, .int .i64 a1_1] 23 (0, 0)) (by (with_reducible repeat (first | refine blk_drewN ?_ _ | refine blk_drew ?_ | refine blk_alloc ?_ _)); exact BK254.out) hb); have n2_ := Aside0.mk (blk_below (g := gb255) (o := .cells #[.int .i64 a2_0, .int .i64 a2_1] 23 (0, 0)) (by (with_reducible repeat (first | refine blk_drewN ?_ _ | refine blk_drew ?_ | refine blk_alloc ?_ _)); exact BK255.out) hb); have n3_ := Aside0.mk (below_step (by repeat (first | (with_reducible first | exact HB.out | apply below_alloc | apply pw_below_drewN | apply below_drew1 | refine below_set ?_ GE253.out | refine below_set ?_ GE254.out | refine below_set ?_ GE255.out) | exact HB.out)) hb); clear BK253; clear BK254; clear BK255; clear HB; have BK253 := n0_; have BK254 := n1_; have BK255 := n2_; have HB := n3_; clear n0_ n1_ n2_ n3_; (try clear hb); (try clear hb2); (try clear hk); (try clear hi)))
  (try simp only [Act.put, List.setIfInBounds_toArray, List.set_cons_zero, List.set_cons_succ])
  go_cut [6] (fun v6 wc => ∃ (kq : Nat) (x6_7 : Bool), v6 = .bool x6_7 ∧ Aside0 (windhoverlaw09_GeoOrients.j0 kq x6_7 = some r) ∧ Aside0 (kq ≤ k) ∧ Aside0 (wc.heap[gb253]? = some (.cells #[.int .i64 a0_0, .int .i64 a0_1] 23 (0, 0))) ∧ Aside0 (wc.heap[gb254]? = some (.cells #[.int .i64 a1_0, .int .i64 a1_1] 23 (0, 0))) ∧ Aside0 (wc.heap[gb255]? = some (.cells #[.int .i64 a2_0, .int .i64 a2_1] 23 (0, 0))) ∧ Aside0 (Below w.heap.size w wc))
  case first =>
    have H := HC8.out
    clear HC8
    replace H := Option.bind_eq_some_iff.mp H
    obtain ⟨t264, A290, H⟩ := H
    replace H : (if t264 = true then (if t256 = t258 then (if t257 = t259 then (if t260 = t262 then (windhoverlaw09_GeoOrients.j0 k (t261 == t263)) else (windhoverlaw09_GeoOrients.j0 k false)) else (windhoverlaw09_GeoOrients.j0 k false)) else (windhoverlaw09_GeoOrients.j0 k false)) else (windhoverlaw09_GeoOrients.j0 k false)) = some r := H
    have A29 := Aside0.mk A290
    clear A290
    by_cases c30 : t264 = true
    · subst c30
      have H1 : (if t256 = t258 then (if t257 = t259 then (if t260 = t262 then (windhoverlaw09_GeoOrients.j0 k (t261 == t263)) else (windhoverlaw09_GeoOrients.j0 k false)) else (windhoverlaw09_GeoOrients.j0 k false)) else (windhoverlaw09_GeoOrients.j0 k false)) = some r := by rw [if_pos rfl] at H; exact H
      clear H
      have H := H1
      clear H1
      by_cases c31 : t256 = t258
      · rw [if_pos c31] at H
        have c31b0 : (t256 == t258) = true := beq_iff_eq.mpr c31
        have c31b1 : (t256 != t258) = false := bne_eq_false_iff_eq.mpr c31
        clear c31
        (first | rw [c31b0] | (simp only [i64_w, i32_w]; rw [c31b0]) | skip)
        by_cases c32 : t257 = t259
        · rw [if_pos c32] at H
          have c32b0 : (t257 == t259) = true := beq_iff_eq.mpr c32
          have c32b1 : (t257 != t259) = false := bne_eq_false_iff_eq.mpr c32
          clear c32
          by_cases c33 : t260 = t262
          · rw [if_pos c33] at H
            have c33b0 : (t260 == t262) = true := beq_iff_eq.mpr c33
            have c33b1 : (t260 != t262) = false := bne_eq_false_iff_eq.mpr c33
            clear c33
            have H' := Aside0.mk H
            clear H
            go_wp2_with (first | ((with_reducible refine gate_callee (f := 18) rfl ?_); refine goesL_ (some 41) rfl rfl Try.func18 (by kernel_rfl) rfl #[] rfl (by (try simp only [List.map_toArray, List.map_cons, List.map_nil]); first | done | rfl | (simp only [List.length_drop, List.length_take]; rfl)) ?_; (with_reducible refine (windhoverlaw09_awake.calls k  true _ A29.out).mono ?_); rintro e w34 ⟨rfl, hb⟩; refine ⟨_, rfl, ?_⟩; have n0_ := Aside0.mk (blk_below (g := gb253) (o := .cells #[.int .i64 a0_0, .int .i64 a0_1] 23 (0, 0)) (by (with_reducible repeat (first | refine blk_drewN ?_ _ | refine blk_drew ?_ | refine blk_alloc ?_ _)); exact BK253.out) hb); have n1_ := Aside0.mk (blk_below (g := gb254) (o := .cells #[.int .i64 a1_0, .int .i64 a1_1] 23 (0, 0)) (by (with_reducible repeat (first | refine blk_drewN ?_ _ | refine blk_drew ?_ | refine blk_alloc ?_ _)); exact BK254.out) hb); have n2_ := Aside0.mk (blk_below (g := gb255) (o := .cells #[.int .i64 a2_0, .int .i64 a2_1] 23 (0, 0)) (by (with_reducible repeat (first | refine blk_drewN ?_ _ | refine blk_drew ?_ | refine blk_alloc ?_ _)); exact BK255.out) hb); have n3_ := Aside0.mk (below_step (by repeat (first | (with_reducible first | exact HB.out | apply below_alloc | apply pw_below_drewN | apply below_drew1 | refine below_set ?_ GE253.out | refine below_set ?_ GE254.out | refine below_set ?_ GE255.out) | exact HB.out)) hb); clear BK253; clear BK254; clear BK255; clear HB; have BK253 := n0_; have BK254 := n1_; have BK255 := n2_; have HB := n3_; clear n0_ n1_ n2_ n3_; (try clear hb); (try clear hb2); (try clear hk); (try clear hi)))
            go_meet
            case rel => exact ⟨_, ((t261 == t263)), (by first | rfl | (simp; done) | (simp [*]; done)), H', ⟨by first | omega | exact Nat.le_refl _⟩, ⟨by (with_reducible repeat (first | refine blk_drewN ?_ _ | refine blk_drew ?_ | refine blk_alloc ?_ _)); exact BK253.out⟩, ⟨by (with_reducible repeat (first | refine blk_drewN ?_ _ | refine blk_drew ?_ | refine blk_alloc ?_ _)); exact BK254.out⟩, ⟨by (with_reducible repeat (first | refine blk_drewN ?_ _ | refine blk_drew ?_ | refine blk_alloc ?_ _)); exact BK255.out⟩, ⟨by repeat (first | (with_reducible first | exact HB.out | apply below_alloc | apply pw_below_drewN | apply below_drew1 | refine below_set ?_ GE253.out | refine below_set ?_ GE254.out | refine below_set ?_ GE255.out) | exact HB.out)⟩⟩
          · rw [if_neg c33] at H
            have c33b0 : (t260 == t262) = false := beq_eq_false_iff_ne.mpr c33
            have c33b1 : (t260 != t262) = true := bne_iff_ne.mpr c33
            have H' := Aside0.mk H
            clear H
            go_wp2_with (first | ((with_reducible refine gate_callee (f := 18) rfl ?_); refine goesL_ (some 41) rfl rfl Try.func18 (by kernel_rfl) rfl #[] rfl (by (try simp only [List.map_toArray, List.map_cons, List.map_nil]); first | done | rfl | (simp only [List.length_drop, List.length_take]; rfl)) ?_; (with_reducible refine (windhoverlaw09_awake.calls k  true _ A29.out).mono ?_); rintro e w35 ⟨rfl, hb⟩; refine ⟨_, rfl, ?_⟩; have n0_ := Aside0.mk (blk_below (g := gb253) (o := .cells #[.int .i64 a0_0, .int .i64 a0_1] 23 (0, 0)) (by (with_reducible repeat (first | refine blk_drewN ?_ _ | refine blk_drew ?_ | refine blk_alloc ?_ _)); exact BK253.out) hb); have n1_ := Aside0.mk (blk_below (g := gb254) (o := .cells #[.int .i64 a1_0, .int .i64 a1_1] 23 (0, 0)) (by (with_reducible repeat (first | refine blk_drewN ?_ _ | refine blk_drew ?_ | refine blk_alloc ?_ _)); exact BK254.out) hb); have n2_ := Aside0.mk (blk_below (g := gb255) (o := .cells #[.int .i64 a2_0, .int .i64 a2_1] 23 (0, 0)) (by (with_reducible repeat (first | refine blk_drewN ?_ _ | refine blk_drew ?_ | refine blk_alloc ?_ _)); exact BK255.out) hb); have n3_ := Aside0.mk (below_step (by repeat (first | (with_reducible first | exact HB.out | apply below_alloc | apply pw_below_drewN | apply below_drew1 | refine below_set ?_ GE253.out | refine below_set ?_ GE254.out | refine below_set ?_ GE255.out) | exact HB.out)) hb); clear BK253; clear BK254; clear BK255; clear HB; have BK253 := n0_; have BK254 := n1_; have BK255 := n2_; have HB := n3_; clear n0_ n1_ n2_ n3_; (try clear hb); (try clear hb2); (try clear hk); (try clear hi)))
            go_meet
            case rel => exact ⟨_, (false), (by first | rfl | (simp; done) | (simp [*]; done)), H', ⟨by first | omega | exact Nat.le_refl _⟩, ⟨by (with_reducible repeat (first | refine blk_drewN ?_ _ | refine blk_drew ?_ | refine blk_alloc ?_ _)); exact BK253.out⟩, ⟨by (with_reducible repeat (first | refine blk_drewN ?_ _ | refine blk_drew ?_ | refine blk_alloc ?_ _)); exact BK254.out⟩, ⟨by (with_reducible repeat (first | refine blk_drewN ?_ _ | refine blk_drew ?_ | refine blk_alloc ?_ _)); exact BK255.out⟩, ⟨by repeat (first | (with_reducible first | exact HB.out | apply below_alloc | apply pw_below_drewN | apply below_drew1 | refine below_set ?_ GE253.out | refine below_set ?_ GE254.out | refine below_set ?_ GE255.out) | exact HB.out)⟩⟩
        · rw [if_neg c32] at H
          have c32b0 : (t257 == t259) = false := beq_eq_false_iff_ne.mpr c32
          have c32b1 : (t257 != t259) = true := bne_iff_ne.mpr c32
          have H' := Aside0.mk H
          clear H
          go_wp2_with (first | ((with_reducible refine gate_callee (f := 18) rfl ?_); refine goesL_ (some 41) rfl rfl Try.func18 (by kernel_rfl) rfl #[] rfl (by (try simp only [List.map_toArray, List.map_cons, List.map_nil]); first | done | rfl | (simp only [List.length_drop, List.length_take]; rfl)) ?_; (with_reducible refine (windhoverlaw09_awake.calls k  true _ A29.out).mono ?_); rintro e w36 ⟨rfl, hb⟩; refine ⟨_, rfl, ?_⟩; have n0_ := Aside0.mk (blk_below (g := gb253) (o := .cells #[.int .i64 a0_0, .int .i64 a0_1] 23 (0, 0)) (by (with_reducible repeat (first | refine blk_drewN ?_ _ | refine blk_drew ?_ | refine blk_alloc ?_ _)); exact BK253.out) hb); have n1_ := Aside0.mk (blk_below (g := gb254) (o := .cells #[.int .i64 a1_0, .int .i64 a1_1] 23 (0, 0)) (by (with_reducible repeat (first | refine blk_drewN ?_ _ | refine blk_drew ?_ | refine blk_alloc ?_ _)); exact BK254.out) hb); have n2_ := Aside0.mk (blk_below (g := gb255) (o := .cells #[.int .i64 a2_0, .int .i64 a2_1] 23 (0, 0)) (by (with_reducible repeat (first | refine blk_drewN ?_ _ | refine blk_drew ?_ | refine blk_alloc ?_ _)); exact BK255.out) hb); have n3_ := Aside0.mk (below_step (by repeat (first | (with_reducible first | exact HB.out | apply below_alloc | apply pw_below_drewN | apply below_drew1 | refine below_set ?_ GE253.out | refine below_set ?_ GE254.out | refine below_set ?_ GE255.out) | exact HB.out)) hb); clear BK253; clear BK254; clear BK255; clear HB; have BK253 := n0_; have BK254 := n1_; have BK255 := n2_; have HB := n3_; clear n0_ n1_ n2_ n3_; (try clear hb); (try clear hb2); (try clear hk); (try clear hi)))
          go_meet
          case rel => exact ⟨_, (false), (by first | rfl | (simp; done) | (simp [*]; done)), H', ⟨by first | omega | exact Nat.le_refl _⟩, ⟨by (with_reducible repeat (first | refine blk_drewN ?_ _ | refine blk_drew ?_ | refine blk_alloc ?_ _)); exact BK253.out⟩, ⟨by (with_reducible repeat (first | refine blk_drewN ?_ _ | refine blk_drew ?_ | refine blk_alloc ?_ _)); exact BK254.out⟩, ⟨by (with_reducible repeat (first | refine blk_drewN ?_ _ | refine blk_drew ?_ | refine blk_alloc ?_ _)); exact BK255.out⟩, ⟨by repeat (first | (with_reducible first | exact HB.out | apply below_alloc | apply pw_below_drewN | apply below_drew1 | refine below_set ?_ GE253.out | refine below_set ?_ GE254.out | refine below_set ?_ GE255.out) | exact HB.out)⟩⟩
      · rw [if_neg c31] at H
        have c31b0 : (t256 == t258) = false := beq_eq_false_iff_ne.mpr c31
        have c31b1 : (t256 != t258) = true := bne_iff_ne.mpr c31
        (first | rw [c31b0] | (simp only [i64_w, i32_w]; rw [c31b0]) | skip)
        have H' := Aside0.mk H
        clear H
        go_wp2_with (first | ((with_reducible refine gate_callee (f := 18) rfl ?_); refine goesL_ (some 41) rfl rfl Try.func18 (by kernel_rfl) rfl #[] rfl (by (try simp only [List.map_toArray, List.map_cons, List.map_nil]); first | done | rfl | (simp only [List.length_drop, List.length_take]; rfl)) ?_; (with_reducible refine (windhoverlaw09_awake.calls k  true _ A29.out).mono ?_); rintro e w37 ⟨rfl, hb⟩; refine ⟨_, rfl, ?_⟩; have n0_ := Aside0.mk (blk_below (g := gb253) (o := .cells #[.int .i64 a0_0, .int .i64 a0_1] 23 (0, 0)) (by (with_reducible repeat (first | refine blk_drewN ?_ _ | refine blk_drew ?_ | refine blk_alloc ?_ _)); exact BK253.out) hb); have n1_ := Aside0.mk (blk_below (g := gb254) (o := .cells #[.int .i64 a1_0, .int .i64 a1_1] 23 (0, 0)) (by (with_reducible repeat (first | refine blk_drewN ?_ _ | refine blk_drew ?_ | refine blk_alloc ?_ _)); exact BK254.out) hb); have n2_ := Aside0.mk (blk_below (g := gb255) (o := .cells #[.int .i64 a2_0, .int .i64 a2_1] 23 (0, 0)) (by (with_reducible repeat (first | refine blk_drewN ?_ _ | refine blk_drew ?_ | refine blk_alloc ?_ _)); exact BK255.out) hb); have n3_ := Aside0.mk (below_step (by repeat (first | (with_reducible first | exact HB.out | apply below_alloc | apply pw_below_drewN | apply below_drew1 | refine below_set ?_ GE253.out | refine below_set ?_ GE254.out | refine below_set ?_ GE255.out) | exact HB.out)) hb); clear BK253; clear BK254; clear BK255; clear HB; have BK253 := n0_; have BK254 := n1_; have BK255 := n2_; have HB := n3_; clear n0_ n1_ n2_ n3_; (try clear hb); (try clear hb2); (try clear hk); (try clear hi)))
        go_meet
        case rel => exact ⟨_, (false), (by first | rfl | (simp; done) | (simp [*]; done)), H', ⟨by first | omega | exact Nat.le_refl _⟩, ⟨by (with_reducible repeat (first | refine blk_drewN ?_ _ | refine blk_drew ?_ | refine blk_alloc ?_ _)); exact BK253.out⟩, ⟨by (with_reducible repeat (first | refine blk_drewN ?_ _ | refine blk_drew ?_ | refine blk_alloc ?_ _)); exact BK254.out⟩, ⟨by (with_reducible repeat (first | refine blk_drewN ?_ _ | refine blk_drew ?_ | refine blk_alloc ?_ _)); exact BK255.out⟩, ⟨by repeat (first | (with_reducible first | exact HB.out | apply below_alloc | apply pw_below_drewN | apply below_drew1 | refine below_set ?_ GE253.out | refine below_set ?_ GE254.out | refine below_set ?_ GE255.out) | exact HB.out)⟩⟩
    · replace c30 := Bool.eq_false_iff.mpr c30
      subst c30
      have H1 : (windhoverlaw09_GeoOrients.j0 k false) = some r := by rw [if_neg (show ¬ (false = true) by decide)] at H; exact H
      clear H
      have H := H1
      clear H1
      have H' := Aside0.mk H
      clear H
      go_wp2_with (first | ((with_reducible refine gate_callee (f := 18) rfl ?_); refine goesL_ (some 41) rfl rfl Try.func18 (by kernel_rfl) rfl #[] rfl (by (try simp only [List.map_toArray, List.map_cons, List.map_nil]); first | done | rfl | (simp only [List.length_drop, List.length_take]; rfl)) ?_; (with_reducible refine (windhoverlaw09_awake.calls k  false _ A29.out).mono ?_); rintro e w38 ⟨rfl, hb⟩; refine ⟨_, rfl, ?_⟩; have n0_ := Aside0.mk (blk_below (g := gb253) (o := .cells #[.int .i64 a0_0, .int .i64 a0_1] 23 (0, 0)) (by (with_reducible repeat (first | refine blk_drewN ?_ _ | refine blk_drew ?_ | refine blk_alloc ?_ _)); exact BK253.out) hb); have n1_ := Aside0.mk (blk_below (g := gb254) (o := .cells #[.int .i64 a1_0, .int .i64 a1_1] 23 (0, 0)) (by (with_reducible repeat (first | refine blk_drewN ?_ _ | refine blk_drew ?_ | refine blk_alloc ?_ _)); exact BK254.out) hb); have n2_ := Aside0.mk (blk_below (g := gb255) (o := .cells #[.int .i64 a2_0, .int .i64 a2_1] 23 (0, 0)) (by (with_reducible repeat (first | refine blk_drewN ?_ _ | refine blk_drew ?_ | refine blk_alloc ?_ _)); exact BK255.out) hb); have n3_ := Aside0.mk (below_step (by repeat (first | (with_reducible first | exact HB.out | apply below_alloc | apply pw_below_drewN | apply below_drew1 | refine below_set ?_ GE253.out | refine below_set ?_ GE254.out | refine below_set ?_ GE255.out) | exact HB.out)) hb); clear BK253; clear BK254; clear BK255; clear HB; have BK253 := n0_; have BK254 := n1_; have BK255 := n2_; have HB := n3_; clear n0_ n1_ n2_ n3_; (try clear hb); (try clear hb2); (try clear hk); (try clear hi)))
      go_meet
      case rel => exact ⟨_, (false), (by first | rfl | (simp; done) | (simp [*]; done)), H', ⟨by first | omega | exact Nat.le_refl _⟩, ⟨by (with_reducible repeat (first | refine blk_drewN ?_ _ | refine blk_drew ?_ | refine blk_alloc ?_ _)); exact BK253.out⟩, ⟨by (with_reducible repeat (first | refine blk_drewN ?_ _ | refine blk_drew ?_ | refine blk_alloc ?_ _)); exact BK254.out⟩, ⟨by (with_reducible repeat (first | refine blk_drewN ?_ _ | refine blk_drew ?_ | refine blk_alloc ?_ _)); exact BK255.out⟩, ⟨by repeat (first | (with_reducible first | exact HB.out | apply below_alloc | apply pw_below_drewN | apply below_drew1 | refine below_set ?_ GE253.out | refine below_set ?_ GE254.out | refine below_set ?_ GE255.out) | exact HB.out)⟩⟩
  case rest =>
    clear HC8
    try clear c1
    try clear p2
    try clear c3
    try clear c12
    try clear c13
    try clear c14
    try clear c15
    try clear c16
    try clear c17
    try clear c18
    try clear c30
    try clear c31
    try clear c31b0
    try clear c31b1
    try clear c32
    try clear c32b0
    try clear c32b1
    try clear c33
    try clear c33b0
    try clear c33b1
    try clear hcz14_0
    try clear hcz14_1
    try clear hcz16_0
    try clear hcz16_1
    try clear hcz17_0
    try clear hcz17_1
    try clear hcz19_0
    try clear hcz19_1
    try clear hcz20_0
    try clear hcz20_1
    try clear hcz21_0
    try clear hcz21_1
    try clear hcz23_0
    try clear hcz23_1
    try clear hcz24_0
    try clear hcz24_1
    try clear hcz26_0
    try clear hcz26_1
    try clear hcz27_0
    try clear hcz27_1
    try clear hfz14_0
    try clear hfz14_1
    try clear hfz16_0
    try clear hfz16_1
    try clear hfz17_0
    try clear hfz17_1
    try clear hfz19_0
    try clear hfz19_1
    try clear hfz20_0
    try clear hfz20_1
    try clear hfz21_0
    try clear hfz21_1
    try clear hfz23_0
    try clear hfz23_1
    try clear hfz24_0
    try clear hfz24_1
    try clear hfz26_0
    try clear hfz26_1
    try clear hfz27_0
    try clear hfz27_1
    obtain ⟨kq, x6_7, rfl, HA, HJ7, BK253, BK254, BK255, HB⟩ := hcut
    cases kq with
    | zero => exact absurd HA.out (by simp [windhoverlaw09_GeoOrients.j0])
    | succ kj7 =>
      have H := HA.out
      clear HA
      simp only [windhoverlaw09_GeoOrients.j0] at H
      obtain rfl := Option.some.inj H
      go_wp2
      go_ret
      exact ⟨by first | rfl | (simp [errW_none, errW_some] <;> rfl) | (simp [*, errW_none, errW_some] <;> rfl), by repeat (first | (with_reducible first | exact HB.out | apply below_alloc | apply pw_below_drewN | apply below_drew1 | refine below_set ?_ GE253.out | refine below_set ?_ GE254.out | refine below_set ?_ GE255.out) | exact HB.out)⟩

end Go.Proofs.Ytannklfnfacpeaa.X
