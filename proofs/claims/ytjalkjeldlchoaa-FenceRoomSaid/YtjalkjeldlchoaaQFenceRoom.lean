import Derived.Test.YtjalkjeldlchoaaZFenceRoom1
import Derived.Test.YtjalkjeldlchoaaRows
/- The statement FenceRoom of the given program: its row, out of the law's contract. No condition beyond the statement's own. -/
namespace Go.Proofs.Ytjalkjeldlchoaa.fenceRoom
open Go Go.ChangeShapes Go.WideShapes Go.ChangeAt Go.RowKit Go.Proofs.Ytjalkjeldlchoaa.Ex
open Go.ChangeMaps (open_string shut_string)
set_option linter.unusedVariables false
theorem own : ownKnob Try.prog.godebug = none := by kernel_rfl
theorem laidOut : laidOutB Try.prog = true := by kernel_rfl
set_option maxRecDepth 100000 in
theorem lifted (os : Os) (started : os.Started) (H : Type) (enc : TypeId × Value → H) :
    ReturnsInHanded {} Try.checked os 11 .any (Rows.fenceRoomSpec.pre6 enc Try.prog Try.f11 Rows.fenceRoomRow.domain false) (Rows.fenceRoomSpec.post enc Try.prog Try.f11 false true false false) := by
  refine returnsInHanded_of_change_sized (C := Try.checked) own started (by kernel_rfl) Try.func11
    (ChangeSpec.witness6 (enc := enc) (C := Try.checked) false ⟨#[], #[.agg #[.slice none 0 0, .int .i64 0, .int .i64 0, .slice none 0 0], .agg #[.int .i64 0, .int .i64 0, .int .i64 0, .int .i64 0, .int .i64 0], .agg #[.int .i64 0, .int .i64 0]], []⟩ 8 (by kernel_rfl) (by kernel_rfl) (by kernel_rfl) (by kernel_rfl)) ?_
  intro W base args ds gs before hval0 hW hcnd hsz0 _
  have hsz : (DataW.weightsEach Try.prog (Try.f11.params.toList ++ Rows.fenceRoomSpec.plain.varTypes Try.prog) (ds ++ gs)).all (· ≤ reachBytes) = true := hsz0
  have hval : ∀ (j : Nat) t v, Try.f11.params[j]? = some t → args[j]? = some v → Value.okWide Try.prog W .any base t v := hval0
  have hW' := hW
  obtain ⟨p, q, hA0, hV, rfl, hfz, hnd⟩ := hW
  have hA : DataW.TrodAll enc Try.prog W 0 (fun _ => true) true Try.f11.params.toList args.toList ds p := hA0
  rw [Try.params11] at hA hval hsz
  obtain ⟨v0, vs0, d0, ds0, p0, q0, hargs, rfl, rfl, t0, r0⟩ := trodAll_cons hA
  obtain ⟨v1, vs1, d1, ds1, p1, q1, rfl, rfl, rfl, t1, r1⟩ := trodAll_cons r0
  obtain ⟨v2, vs2, d2, ds2, p2, q2, rfl, rfl, rfl, t2, r2⟩ := trodAll_cons r1
  obtain ⟨rfl, rfl, rfl⟩ := trodAll_nil r2
  obtain rfl : args = #[v0, v1, v2] := by cases args; simp_all
  obtain ⟨rfl, rfl⟩ := trodVars_none hV
  have k0 := t0
  have lt0 : ∀ x ∈ p0, x.block < W.heap.size := by obtain ⟨m, hm⟩ := k0; exact DataW.trod_lt m _ _ _ hm
  have wt0 := weights_arg hsz 0 rfl rfl
  obtain ⟨fu0, hf0⟩ := t0
  obtain ⟨cs0, rfl, hcs0⟩ := okWide_struct Try.underlying24 (hval 0 24 v0 rfl rfl)
  have k1 := t1
  have lt1 : ∀ x ∈ p1, x.block < W.heap.size := by obtain ⟨m, hm⟩ := k1; exact DataW.trod_lt m _ _ _ hm
  have wt1 := weights_arg hsz 1 rfl rfl
  obtain ⟨fu1, hf1⟩ := t1
  obtain ⟨cs1, rfl, hcs1⟩ := okWide_struct Try.underlying41 (hval 1 41 v1 rfl rfl)
  obtain ⟨cl1, ecl1⟩ : ∃ cl, cl = (Value.agg cs1).cells.toList := ⟨_, rfl⟩
  rw [← ecl1] at hf1
  obtain ⟨b1, e1, n1, g1⟩ := (show OpF Try.prog 41 _ _ _ from (OpF.struct Try.underlying41 (by kernel_rfl) (OpFs.cons rfl (OpF.struct Try.underlying39 (by kernel_rfl) (OpFs.cons rfl (OpF.int (k := .i64) (by kernel_rfl) Try.underlying3) (OpFs.one rfl (OpF.int (k := .i64) (by kernel_rfl) Try.underlying3)))) (OpFs.cons rfl (OpF.struct Try.underlying39 (by kernel_rfl) (OpFs.cons rfl (OpF.int (k := .i64) (by kernel_rfl) Try.underlying3) (OpFs.one rfl (OpF.int (k := .i64) (by kernel_rfl) Try.underlying3)))) (OpFs.one rfl (OpF.int (k := .i64) (by kernel_rfl) Try.underlying3)))))).op hf1 wt1
  rw [e1] at ecl1
  obtain rfl := agg_arr ecl1
  have k2 := t2
  have lt2 : ∀ x ∈ p2, x.block < W.heap.size := by obtain ⟨m, hm⟩ := k2; exact DataW.trod_lt m _ _ _ hm
  have wt2 := weights_arg hsz 2 rfl rfl
  obtain ⟨fu2, hf2⟩ := t2
  obtain ⟨cs2, rfl, hcs2⟩ := okWide_struct Try.underlying39 (hval 2 39 v2 rfl rfl)
  obtain ⟨cl2, ecl2⟩ : ∃ cl, cl = (Value.agg cs2).cells.toList := ⟨_, rfl⟩
  rw [← ecl2] at hf2
  obtain ⟨b2, e2, n2, g2⟩ := (show OpF Try.prog 39 _ _ _ from (OpF.struct Try.underlying39 (by kernel_rfl) (OpFs.cons rfl (OpF.int (k := .i64) (by kernel_rfl) Try.underlying3) (OpFs.one rfl (OpF.int (k := .i64) (by kernel_rfl) Try.underlying3))))).op hf2 wt2
  rw [e2] at ecl2
  obtain rfl := agg_arr ecl2
  refine (row_calls (P := Try.prog) (f := 11) (by
    exact fence_row W hf0 wt0 [_, _] rfl (fun P R fl ce hP hR _ _ => room_law awake_done P R fl ce _ _ _ _ _ _ _ hP hR)
    )).mono fun e W' ⟨he, bel⟩ => ?_
  subst he
  exact ⟨_, rfl, _, _, _, [], _, [], hW', trodAll_mk1 (shut_bool Try.underlying4 _), (trodAll_cons_mk (Below.trod laidOut (by kernel_rfl) (of_decide_eq_true (by kernel_rfl)) k0 bel lt0) (trodAll_cons_mk (Below.trod laidOut (by kernel_rfl) (of_decide_eq_true (by kernel_rfl)) k1 bel lt1) (trodAll_cons_mk (Below.trod laidOut (by kernel_rfl) (of_decide_eq_true (by kernel_rfl)) k2 bel lt2) trodAll_mk0))), rfl, bel.frame _, fun h => by cases h⟩
theorem over : Rows.fenceRoomRow.holds Try.pinned (OpenSpec.ofChange Rows.fenceRoomSpec) :=
  OpenClaim.holds_of_wide 11 Try.f11 rfl rfl rfl rfl rfl rfl rfl ⟨rfl, rfl, rfl, rfl, rfl⟩ rfl rfl rfl rfl rfl (by kernel_rfl) Try.func11 (by kernel_rfl)
    (of_decide_eq_true (by kernel_rfl)) (by unfold Func.isWrapper; first | (rw [if_pos (by decide +kernel)]; kernel_rfl) | (rw [if_neg (by decide +kernel)]; exact ⟨rfl, rfl⟩))
    (fun os started H enc _ => lifted os started H enc)
theorem proved : Rows.FenceRoomSaid := over
#print axioms proved
end Go.Proofs.Ytjalkjeldlchoaa.fenceRoom
namespace Go.Proofs.Ytjalkjeldlchoaa
/-- The row, under a short name, for the claim. -/
theorem fenceRoom_holds : Rows.FenceRoomSaid := fenceRoom.proved
end Go.Proofs.Ytjalkjeldlchoaa
