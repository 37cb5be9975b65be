/- The statement MsgsDecodes of the given program: its row, out of the law's contract and the pure statement YteleiocdjcdgcaaXPureMsgsDecodes.MsgsDecodes. No condition beyond the statement's own. -/
import Derived.Test.YteleiocdjcdgcaaRows
import Derived.Test.YteleiocdjcdgcaaXHDec
import Derived.Test.YteleiocdjcdgcaaXPureMsgsDecodes
import Derived.Test.YteleiocdjcdgcaaXHOpen
import Derived.WalkKit
import Derived.ProofKit
import Derived.OpenShut
import Derived.ShutString
import Derived.ChangeOld
import Derived.Below
import Derived.SizedLaws
namespace Go.Proofs.Yteleiocdjcdgcaa.msgsDecodes
open Go.ChangeShapes Go.WideShapes Go.ChangeAt Go.RowKit Go.Proofs.YteleiocdjcdgcaaW.PrintWords Go.Proofs.Yteleiocdjcdgcaa.X Go.Proofs.Yteleiocdjcdgcaa.HOpen
open Go.ChangeMaps (open_string shut_string)
set_option linter.unusedVariables false
theorem own : ownKnob Try.prog.godebug = none := by kernel_rfl
theorem laidOut : laidOutB Try.prog = true := by kernel_rfl
set_option maxRecDepth 100000 in
theorem lifted (os : Os) (started : os.Started) (H : Type) (enc : TypeId × Value → H) :
    ReturnsInHanded {} Try.checked os 4 .any (Rows.msgsDecodesSpec.pre6 enc Try.prog Try.f4 Rows.msgsDecodesRow.domain false) (Rows.msgsDecodesSpec.post enc Try.prog Try.f4 false true false false) := by
  refine returnsInHanded_of_change_sized (C := Try.checked) own started (by kernel_rfl) Try.func4
    (ChangeSpec.witness6 (enc := enc) (C := Try.checked) false ⟨#[], #[.agg #[.int .i64 0, .int .i64 0, .string ByteArray.empty]], []⟩ 8 (by kernel_rfl) (by kernel_rfl) (by kernel_rfl) (by kernel_rfl)) ?_
  intro W base args ds gs before hval0 hW hcnd hsz0 _
  have hsz : (DataW.weightsEach Try.prog (Try.f4.params.toList ++ Rows.msgsDecodesSpec.plain.varTypes Try.prog) (ds ++ gs)).all (· ≤ reachBytes) = true := hsz0
  have hval : ∀ (j : Nat) t v, Try.f4.params[j]? = some t → args[j]? = some v → Value.okWide Try.prog W .any base t v := hval0
  have hW' := hW
  obtain ⟨p, q, hA0, hV, rfl, hfz, hnd⟩ := hW
  have hA : DataW.TrodAll enc Try.prog W 0 (fun _ => true) true Try.f4.params.toList args.toList ds p := hA0
  rw [Try.params4] at hA hval hsz
  obtain ⟨v0, vs0, d0, ds0, p0, q0, hargs, rfl, rfl, h0, r0⟩ := trodAll_cons hA
  obtain ⟨rfl, rfl, rfl⟩ := trodAll_nil r0
  obtain rfl : args = #[v0] := by cases args; simp_all
  obtain ⟨rfl, rfl⟩ := trodVars_none hV
  have k0 := h0
  have lt0 : ∀ x ∈ p0, x.block < W.heap.size := by obtain ⟨m, hm⟩ := k0; exact DataW.trod_lt m _ _ _ hm
  have wt0 := weights_arg hsz 0 rfl rfl
  obtain ⟨cs0, rfl, hcs0⟩ := okWide_struct Try.underlying28 (hval 0 28 v0 rfl rfl)
  obtain ⟨fu0, hf0⟩ := h0
  obtain ⟨cl0, ecl0⟩ : ∃ cl, cl = (Value.agg cs0).cells.toList := ⟨_, rfl⟩
  rw [← ecl0] at hf0
  obtain ⟨⟨a0_0, a0_1, a0_2⟩, ⟨_, _, rfl, rfl, ⟨_, _, rfl, rfl, rfl⟩⟩, ⟨g0_0, g0_1, g0_2⟩⟩ := (show Opens Try.prog 28 (Kd.pair (Kd.int .i64) (Kd.pair (Kd.int .i64) Kd.string)) _ from (Opens.struct Try.underlying28 (by kernel_rfl) (OpensF.cons rfl (Opens.int (by kernel_rfl) Try.underlying3) (OpensF.cons rfl (Opens.int (by kernel_rfl) Try.underlying3) (OpensF.one rfl (Opens.string (by kernel_rfl) Try.underlying9)))))).op hf0 wt0
  obtain rfl : cs0 = #[.int .i64 a0_0, .int .i64 a0_1, .string a0_2] := by have := congrArg List.toArray ecl0; simpa [Value.cells] using this.symm
  clear hA0 hval0 hsz0 hsz
  obtain ⟨k, h⟩ := X.MsgsDecodes a0_0 a0_1 a0_2 g0_0 g0_1 g0_2
  refine (windhoverlaw05_MsgsDecodes.calls k a0_0 a0_1 a0_2 true W  h).mono fun e W' ⟨he, bel0⟩ => ?_
  have bel := bel0
  subst he
  exact ⟨_, rfl, _, _, _, [], _, [], hW', trodAll_mk1 (shut_bool Try.underlying4 _), (trodAll_cons_mk (Below.trod laidOut (by kernel_rfl) (of_decide_eq_true (by kernel_rfl)) k0 bel lt0) trodAll_mk0), rfl, bel.frame _, fun h => by cases h⟩
theorem over : Rows.msgsDecodesRow.holds Try.pinned (OpenSpec.ofChange Rows.msgsDecodesSpec) :=
  OpenClaim.holds_of_wide 4 Try.f4 rfl rfl rfl rfl rfl rfl rfl ⟨rfl, rfl, rfl, rfl, rfl⟩ rfl rfl rfl rfl rfl (by kernel_rfl) Try.func4 (by kernel_rfl)
    (of_decide_eq_true (by kernel_rfl)) (by unfold Func.isWrapper; first | (rw [if_pos (by decide +kernel)]; kernel_rfl) | (rw [if_neg (by decide +kernel)]; exact ⟨rfl, rfl⟩))
    (fun os started H enc _ => lifted os started H enc)
theorem proved : Rows.MsgsDecodesSaid := over
#print axioms proved
end Go.Proofs.Yteleiocdjcdgcaa.msgsDecodes
namespace Go.Proofs.Yteleiocdjcdgcaa
/-- The row, under a short name, for the claim. -/
theorem msgsDecodes_holds : Rows.MsgsDecodesSaid := msgsDecodes.proved
end Go.Proofs.Yteleiocdjcdgcaa
