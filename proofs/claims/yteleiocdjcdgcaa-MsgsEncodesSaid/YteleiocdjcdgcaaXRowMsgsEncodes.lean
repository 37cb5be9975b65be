/- The statement MsgsEncodes of the given program: its row, out of the law's contract and the pure statement YteleiocdjcdgcaaXPureMsgsEncodes.MsgsEncodes. No condition beyond the statement's own. -/
import Derived.Test.YteleiocdjcdgcaaRows
import Derived.Test.YteleiocdjcdgcaaXx7
import Derived.Test.YteleiocdjcdgcaaXPureMsgsEncodes
import Derived.Test.YteleiocdjcdgcaaXHOpen
import Derived.WalkKit
import Derived.ProofKit
import Derived.OpenShut
import Derived.ShutString
import Derived.ChangeOld
import Derived.Below
import Derived.SizedLaws
namespace Go.Proofs.Yteleiocdjcdgcaa.msgsEncodes
open Go.ChangeShapes Go.WideShapes Go.ChangeAt Go.RowKit Go.Proofs.YteleiocdjcdgcaaW.PrintWords Go.Proofs.Yteleiocdjcdgcaa.X Go.Proofs.Yteleiocdjcdgcaa.HOpen
open Go.ChangeMaps (open_string shut_string)
set_option linter.unusedVariables false
theorem own : ownKnob Try.prog.godebug = none := by kernel_rfl
theorem laidOut : laidOutB Try.prog = true := by kernel_rfl
set_option maxRecDepth 100000 in
theorem lifted (os : Os) (started : os.Started) (H : Type) (enc : TypeId × Value → H) :
    ReturnsInHanded {} Try.checked os 3 .any (Rows.msgsEncodesSpec.pre6 enc Try.prog Try.f3 Rows.msgsEncodesRow.domain false) (Rows.msgsEncodesSpec.post enc Try.prog Try.f3 false true false false) := by
  refine returnsInHanded_of_change_sized (C := Try.checked) own started (by kernel_rfl) Try.func3
    (ChangeSpec.witness6 (enc := enc) (C := Try.checked) false ⟨#[], #[.int .i64 0, .agg #[.int .u8 0, .slice none 0 0]], []⟩ 8 (by kernel_rfl) (by kernel_rfl) (by kernel_rfl) (by kernel_rfl)) ?_
  intro W base args ds gs before hval0 hW hcnd hsz0 _
  have hsz : (DataW.weightsEach Try.prog (Try.f3.params.toList ++ Rows.msgsEncodesSpec.plain.varTypes Try.prog) (ds ++ gs)).all (· ≤ reachBytes) = true := hsz0
  have hval : ∀ (j : Nat) t v, Try.f3.params[j]? = some t → args[j]? = some v → Value.okWide Try.prog W .any base t v := hval0
  have hW' := hW
  obtain ⟨p, q, hA0, hV, rfl, hfz, hnd⟩ := hW
  have hA : DataW.TrodAll enc Try.prog W 0 (fun _ => true) true Try.f3.params.toList args.toList ds p := hA0
  rw [Try.params3] at hA hval hsz
  obtain ⟨v0, vs0, d0, ds0, p0, q0, hargs, rfl, rfl, h0, r0⟩ := trodAll_cons hA
  obtain ⟨v1, vs1, d1, ds1, p1, q1, rfl, rfl, rfl, h1, r1⟩ := trodAll_cons r0
  obtain ⟨rfl, rfl, rfl⟩ := trodAll_nil r1
  obtain rfl : args = #[v0, v1] := by cases args; simp_all
  obtain ⟨rfl, rfl⟩ := trodVars_none hV
  obtain ⟨a0, rfl, rfl, rfl, g0⟩ := open_int Try.underlying3 (hval 0 3 v0 rfl rfl) h0
  have k1 := h1
  have lt1 : ∀ x ∈ p1, x.block < W.heap.size := by obtain ⟨m, hm⟩ := k1; exact DataW.trod_lt m _ _ _ hm
  have wt1 := weights_arg hsz 1 rfl rfl
  obtain ⟨cs1, rfl, hcs1⟩ := okWide_struct Try.underlying25 (hval 1 25 v1 rfl rfl)
  obtain ⟨fu1, hf1⟩ := h1
  obtain ⟨cl1, ecl1⟩ : ∃ cl, cl = (Value.agg cs1).cells.toList := ⟨_, rfl⟩
  rw [← ecl1] at hf1
  obtain ⟨⟨a1_0, l1_1⟩, ⟨_, _, rfl, rfl, ⟨A1_1, c1_1, rfl, hc1_1, hr1_1⟩⟩, ⟨g1_0, g1_1⟩⟩ := (show Opens Try.prog 25 (Kd.pair (Kd.int .u8) (Kd.slice 3 (Kd.int .i64))) _ from (Opens.struct Try.underlying25 (by kernel_rfl) (OpensF.cons rfl (Opens.int (by kernel_rfl) Try.underlying22) (OpensF.one rfl (Opens.slice 8 (by kernel_rfl) Try.underlying23 (by kernel_rfl) (Opens.int (by kernel_rfl) Try.underlying3)))))).op hf1 wt1
  obtain rfl : cs1 = #[.int .u8 a1_0, .slice A1_1 l1_1.length c1_1] := by have := congrArg List.toArray ecl1; simpa [Value.cells] using this.symm
  clear hA0 hval0 hsz0 hsz
  obtain ⟨k, h⟩ := X.MsgsEncodes a0 a1_0 l1_1 g0 g1_0 g1_1
  refine (windhoverlaw05_MsgsEncodes.calls k a0 a1_0 A1_1 c1_1 l1_1 true W hr1_1 hc1_1 h).mono fun e W' ⟨he, bel0⟩ => ?_
  have bel := bel0
  subst he
  exact ⟨_, rfl, _, _, _, [], _, [], hW', trodAll_mk1 (shut_bool Try.underlying4 _), (trodAll_cons_mk (shut_int Try.underlying3 g0) (trodAll_cons_mk (Below.trod laidOut (by kernel_rfl) (of_decide_eq_true (by kernel_rfl)) k1 bel lt1) trodAll_mk0)), rfl, bel.frame _, fun h => by cases h⟩
theorem over : Rows.msgsEncodesRow.holds Try.pinned (OpenSpec.ofChange Rows.msgsEncodesSpec) :=
  OpenClaim.holds_of_wide 3 Try.f3 rfl rfl rfl rfl rfl rfl rfl ⟨rfl, rfl, rfl, rfl, rfl⟩ rfl rfl rfl rfl rfl (by kernel_rfl) Try.func3 (by kernel_rfl)
    (of_decide_eq_true (by kernel_rfl)) (by unfold Func.isWrapper; first | (rw [if_pos (by decide +kernel)]; kernel_rfl) | (rw [if_neg (by decide +kernel)]; exact ⟨rfl, rfl⟩))
    (fun os started H enc _ => lifted os started H enc)
theorem proved : Rows.MsgsEncodesSaid := over
#print axioms proved
end Go.Proofs.Yteleiocdjcdgcaa.msgsEncodes
namespace Go.Proofs.Yteleiocdjcdgcaa
/-- The row, under a short name, for the claim. -/
theorem msgsEncodes_holds : Rows.MsgsEncodesSaid := msgsEncodes.proved
end Go.Proofs.Yteleiocdjcdgcaa
