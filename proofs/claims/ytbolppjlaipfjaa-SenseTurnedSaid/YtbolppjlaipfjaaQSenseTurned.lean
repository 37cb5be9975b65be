import Derived.Test.YtbolppjlaipfjaaYTur3
import Derived.Test.YtbolppjlaipfjaaRows
/- The statement SenseTurned of the given program: its row, out of the law's contract. No condition beyond the statement's own. -/
namespace Go.Proofs.Ytbolppjlaipfjaa.senseTurned
open Go Go.ChangeShapes Go.WideShapes Go.ChangeAt Go.RowKit Go.Proofs.Ytbolppjlaipfjaa.Ex
open Go.ChangeMaps (open_string shut_string)
set_option linter.unusedVariables false
theorem own : ownKnob Try.prog.godebug = none := by kernel_rfl
theorem laidOut : laidOutB Try.prog = true := by kernel_rfl
set_option maxRecDepth 100000 in
theorem lifted (os : Os) (started : os.Started) (H : Type) (enc : TypeId × Value → H) :
    ReturnsInHanded {} Try.checked os 8 .any (Rows.senseTurnedSpec.pre6 enc Try.prog Try.f8 Rows.senseTurnedRow.domain false) (Rows.senseTurnedSpec.post enc Try.prog Try.f8 false true false false) := by
  refine returnsInHanded_of_change_sized (C := Try.checked) own started (by kernel_rfl) Try.func8
    (ChangeSpec.witness6 (enc := enc) (C := Try.checked) false ⟨#[], #[.int .u8 0, .slice none 0 0, .agg #[.int .i64 0, .int .u8 0]], []⟩ 8 (by kernel_rfl) (by kernel_rfl) (by kernel_rfl) (by kernel_rfl)) ?_
  intro W base args ds gs before hval0 hW hcnd hsz0 _
  have hsz : (DataW.weightsEach Try.prog (Try.f8.params.toList ++ Rows.senseTurnedSpec.plain.varTypes Try.prog) (ds ++ gs)).all (· ≤ reachBytes) = true := hsz0
  have hval : ∀ (j : Nat) t v, Try.f8.params[j]? = some t → args[j]? = some v → Value.okWide Try.prog W .any base t v := hval0
  have hW' := hW
  obtain ⟨p, q, hA0, hV, rfl, hfz, hnd⟩ := hW
  have hA : DataW.TrodAll enc Try.prog W 0 (fun _ => true) true Try.f8.params.toList args.toList ds p := hA0
  rw [Try.params8] at hA hval hsz
  obtain ⟨v0, vs0, d0, ds0, p0, q0, hargs, rfl, rfl, t0, r0⟩ := trodAll_cons hA
  obtain ⟨v1, vs1, d1, ds1, p1, q1, rfl, rfl, rfl, t1, r1⟩ := trodAll_cons r0
  obtain ⟨v2, vs2, d2, ds2, p2, q2, rfl, rfl, rfl, t2, r2⟩ := trodAll_cons r1
  obtain ⟨rfl, rfl, rfl⟩ := trodAll_nil r2
  obtain rfl : args = #[v0, v1, v2] := by cases args; simp_all
  obtain ⟨rfl, rfl⟩ := trodVars_none hV
  obtain ⟨a0, rfl, rfl, rfl, g0⟩ := open_int Try.underlying5 (hval 0 5 v0 rfl rfl) t0
  have k1 := t1
  have lt1 : ∀ x ∈ p1, x.block < W.heap.size := by obtain ⟨m, hm⟩ := k1; exact DataW.trod_lt m _ _ _ hm
  have wt1 := weights_arg hsz 1 rfl rfl
  obtain ⟨fu1, hf1⟩ := t1
  obtain ⟨ad1, len1, cap1, rfl⟩ := okWide_slice Try.underlying22 (hval 1 22 v1 rfl rfl)
  have o1 := open_row 8 Try.underlying22 (by kernel_rfl) (by decide) (by kernel_rfl) (.inr trivial) (show OpF Try.prog 3 _ _ _ from (OpF.int (k := .i64) (by kernel_rfl) Try.underlying3)) (by intro a; first | rfl | simp [flat1]) hf1 wt1
  have k2 := t2
  have lt2 : ∀ x ∈ p2, x.block < W.heap.size := by obtain ⟨m, hm⟩ := k2; exact DataW.trod_lt m _ _ _ hm
  have wt2 := weights_arg hsz 2 rfl rfl
  obtain ⟨fu2, hf2⟩ := t2
  obtain ⟨cs2, rfl, hcs2⟩ := okWide_struct Try.underlying43 (hval 2 43 v2 rfl rfl)
  obtain ⟨cl2, ecl2⟩ : ∃ cl, cl = (Value.agg cs2).cells.toList := ⟨_, rfl⟩
  rw [← ecl2] at hf2
  obtain ⟨b2, e2, n2, g2⟩ := (show OpF Try.prog 43 _ _ _ from (OpF.struct Try.underlying43 (by kernel_rfl) (OpFs.cons rfl (OpF.int (k := .i64) (by kernel_rfl) Try.underlying3) (OpFs.one rfl (OpF.int (k := .u8) (by kernel_rfl) Try.underlying5))))).op hf2 wt2
  rw [e2] at ecl2
  obtain rfl := agg_arr ecl2
  refine (row_calls (P := Try.prog) (f := 8) (by
    obtain ⟨at1, by1⟩ := b2
    exact row_fields W a0 o1 [.int .u8 a0] [.agg #[.int .i64 at1, .int .u8 by1]] rfl rfl (turned_nil a0 at1 by1) (turned_emp a0 at1 by1) (fun l hx hn => turned_some a0 at1 by1 (u8_of g0) (u8_of g2.2) l hx hn)
    )).mono fun e W' ⟨he, bel⟩ => ?_
  subst he
  exact ⟨_, rfl, _, _, _, [], _, [], hW', trodAll_mk1 (shut_bool Try.underlying4 _), (trodAll_cons_mk (shut_int Try.underlying5 g0) (trodAll_cons_mk (Below.trod laidOut (by kernel_rfl) (of_decide_eq_true (by kernel_rfl)) k1 bel lt1) (trodAll_cons_mk (Below.trod laidOut (by kernel_rfl) (of_decide_eq_true (by kernel_rfl)) k2 bel lt2) trodAll_mk0))), rfl, bel.frame _, fun h => by cases h⟩
theorem over : Rows.senseTurnedRow.holds Try.pinned (OpenSpec.ofChange Rows.senseTurnedSpec) :=
  OpenClaim.holds_of_wide 8 Try.f8 rfl rfl rfl rfl rfl rfl rfl ⟨rfl, rfl, rfl, rfl, rfl⟩ rfl rfl rfl rfl rfl (by kernel_rfl) Try.func8 (by kernel_rfl)
    (of_decide_eq_true (by kernel_rfl)) (by unfold Func.isWrapper; first | (rw [if_pos (by decide +kernel)]; kernel_rfl) | (rw [if_neg (by decide +kernel)]; exact ⟨rfl, rfl⟩))
    (fun os started H enc _ => lifted os started H enc)
theorem proved : Rows.SenseTurnedSaid := over
#print axioms proved
end Go.Proofs.Ytbolppjlaipfjaa.senseTurned
namespace Go.Proofs.Ytbolppjlaipfjaa
/-- The row, under a short name, for the claim. -/
theorem senseTurned_holds : Rows.SenseTurnedSaid := senseTurned.proved
end Go.Proofs.Ytbolppjlaipfjaa
