/- The statement GeoSides of the given program: its row, out of the law's contract and the pure statement YtannklfnfacpeaaXPureGeoSides.GeoSides. No condition beyond the statement's own. -/
import Derived.Test.YtannklfnfacpeaaRows
import Derived.Test.YtannklfnfacpeaaXx11
import Derived.Test.YtannklfnfacpeaaXPureGeoSides
import Derived.Test.YtannklfnfacpeaaXHOpen
import Derived.WalkKit
import Derived.ProofKit
import Derived.OpenShut
import Derived.ShutString
import Derived.ChangeOld
import Derived.Below
import Derived.SizedLaws
namespace Go.Proofs.Ytannklfnfacpeaa.geoSides
open Go.ChangeShapes Go.WideShapes Go.ChangeAt Go.RowKit Go.Proofs.YtannklfnfacpeaaW.PrintWords Go.Proofs.Ytannklfnfacpeaa.X Go.Proofs.Ytannklfnfacpeaa.HOpen
open Go.ChangeMaps (open_string shut_string)
set_option linter.unusedVariables false
theorem own : ownKnob Try.prog.godebug = none := by kernel_rfl
theorem laidOut : laidOutB Try.prog = true := by kernel_rfl
theorem opens_k23 : Opens Try.prog 23 k23 good23 := by
  have h := Opens.iso (fun s : S23 => (s.f0, s.f1)) (fun p => (⟨p.1, p.2⟩ : S23)) (fun p => rfl) (Opens.struct Try.underlying23 (by kernel_rfl) (OpensF.cons rfl (Opens.int (by kernel_rfl) Try.underlying3) (OpensF.one rfl (Opens.int (by kernel_rfl) Try.underlying3))))
  exact h.mono (fun s hs => hs)
set_option maxRecDepth 100000 in
theorem lifted (os : Os) (started : os.Started) (H : Type) (enc : TypeId × Value → H) :
    ReturnsInHanded {} Try.checked os 6 .any (Rows.geoSidesSpec.pre6 enc Try.prog Try.f6 Rows.geoSidesRow.domain false) (Rows.geoSidesSpec.post enc Try.prog Try.f6 false true false false) := by
  refine returnsInHanded_of_change_sized (C := Try.checked) own started (by kernel_rfl) Try.func6
    (ChangeSpec.witness6 (enc := enc) (C := Try.checked) false ⟨#[], #[.slice none 0 0, .agg #[.int .i64 0, .int .i64 0]], []⟩ 8 (by kernel_rfl) (by kernel_rfl) (by kernel_rfl) (by kernel_rfl)) ?_
  intro W base args ds gs before hval0 hW hcnd hsz0 _
  have hsz : (DataW.weightsEach Try.prog (Try.f6.params.toList ++ Rows.geoSidesSpec.plain.varTypes Try.prog) (ds ++ gs)).all (· ≤ reachBytes) = true := hsz0
  have hval : ∀ (j : Nat) t v, Try.f6.params[j]? = some t → args[j]? = some v → Value.okWide Try.prog W .any base t v := hval0
  have hW' := hW
  obtain ⟨p, q, hA0, hV, rfl, hfz, hnd⟩ := hW
  have hA : DataW.TrodAll enc Try.prog W 0 (fun _ => true) true Try.f6.params.toList args.toList ds p := hA0
  rw [Try.params6] at hA hval hsz
  obtain ⟨v0, vs0, d0, ds0, p0, q0, hargs, rfl, rfl, h0, r0⟩ := trodAll_cons hA
  obtain ⟨v1, vs1, d1, ds1, p1, q1, rfl, rfl, rfl, h1, r1⟩ := trodAll_cons r0
  obtain ⟨rfl, rfl, rfl⟩ := trodAll_nil r1
  obtain rfl : args = #[v0, v1] := by cases args; simp_all
  obtain ⟨rfl, rfl⟩ := trodVars_none hV
  have k0 := h0
  have lt0 : ∀ x ∈ p0, x.block < W.heap.size := by obtain ⟨m, hm⟩ := k0; exact DataW.trod_lt m _ _ _ hm
  have wt0 := weights_arg hsz 0 rfl rfl
  obtain ⟨ad0, len0, cap0, rfl⟩ := okWide_slice Try.underlying35 (hval 0 35 v0 rfl rfl)
  obtain ⟨fu0, hf0⟩ := h0
  obtain ⟨l0, ⟨A0, c0, e0, hc0, hr0⟩, g0⟩ := (show Opens Try.prog 35 (Kd.slice 23 k23) _ from (Opens.slice 16 (by kernel_rfl) Try.underlying35 (by kernel_rfl) opens_k23)).op hf0 wt0
  obtain ⟨rfl, rfl, rfl⟩ : ad0 = A0 ∧ len0 = l0.length ∧ cap0 = c0 := by simpa [Value.cells] using e0
  have k1 := h1
  have lt1 : ∀ x ∈ p1, x.block < W.heap.size := by obtain ⟨m, hm⟩ := k1; exact DataW.trod_lt m _ _ _ hm
  have wt1 := weights_arg hsz 1 rfl rfl
  obtain ⟨cs1, rfl, hcs1⟩ := okWide_struct Try.underlying23 (hval 1 23 v1 rfl rfl)
  obtain ⟨fu1, hf1⟩ := h1
  obtain ⟨cl1, ecl1⟩ : ∃ cl, cl = (Value.agg cs1).cells.toList := ⟨_, rfl⟩
  rw [← ecl1] at hf1
  obtain ⟨⟨a1_0, a1_1⟩, ⟨_, _, rfl, rfl, rfl⟩, ⟨g1_0, g1_1⟩⟩ := (show Opens Try.prog 23 (Kd.pair (Kd.int .i64) (Kd.int .i64)) _ from (Opens.struct Try.underlying23 (by kernel_rfl) (OpensF.cons rfl (Opens.int (by kernel_rfl) Try.underlying3) (OpensF.one rfl (Opens.int (by kernel_rfl) Try.underlying3))))).op hf1 wt1
  obtain rfl : cs1 = #[.int .i64 a1_0, .int .i64 a1_1] := by have := congrArg List.toArray ecl1; simpa [Value.cells] using this.symm
  clear hA0 hval0 hsz0 hsz
  obtain ⟨k, h⟩ := X.GeoSides l0 a1_0 a1_1 g0 g1_0 g1_1
  refine (windhoverlaw09_GeoSides.calls k _ _ l0 a1_0 a1_1 true W hr0 hc0 h).mono fun e W' ⟨he, bel0⟩ => ?_
  have bel := bel0
  subst he
  exact ⟨_, rfl, _, _, _, [], _, [], hW', trodAll_mk1 (shut_bool Try.underlying4 _), (trodAll_cons_mk (Below.trod laidOut (by kernel_rfl) (of_decide_eq_true (by kernel_rfl)) k0 bel lt0) (trodAll_cons_mk (Below.trod laidOut (by kernel_rfl) (of_decide_eq_true (by kernel_rfl)) k1 bel lt1) trodAll_mk0)), rfl, bel.frame _, fun h => by cases h⟩
theorem over : Rows.geoSidesRow.holds Try.pinned (OpenSpec.ofChange Rows.geoSidesSpec) :=
  OpenClaim.holds_of_wide 6 Try.f6 rfl rfl rfl rfl rfl rfl rfl ⟨rfl, rfl, rfl, rfl, rfl⟩ rfl rfl rfl rfl rfl (by kernel_rfl) Try.func6 (by kernel_rfl)
    (of_decide_eq_true (by kernel_rfl)) (by unfold Func.isWrapper; first | (rw [if_pos (by decide +kernel)]; kernel_rfl) | (rw [if_neg (by decide +kernel)]; exact ⟨rfl, rfl⟩))
    (fun os started H enc _ => lifted os started H enc)
theorem proved : Rows.GeoSidesSaid := over
#print axioms proved
end Go.Proofs.Ytannklfnfacpeaa.geoSides
namespace Go.Proofs.Ytannklfnfacpeaa
/-- The row, under a short name, for the claim. -/
theorem geoSides_holds : Rows.GeoSidesSaid := geoSides.proved
end Go.Proofs.Ytannklfnfacpeaa
