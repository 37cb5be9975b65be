/- The statement GeoAround of the given program: its row, out of the law's contract and the pure statement YtannklfnfacpeaaXPureGeoAround.GeoAround. No condition beyond the statement's own. -/
import Derived.Test.YtannklfnfacpeaaRows
import Derived.Test.YtannklfnfacpeaaXx7
import Derived.Test.YtannklfnfacpeaaXPureGeoAround
import Derived.Test.YtannklfnfacpeaaXHOpen
import Derived.WalkKit
import Derived.ProofKit
import Derived.OpenShut
import Derived.ShutString
import Derived.ChangeOld
import Derived.Below
import Derived.SizedLaws
namespace Go.Proofs.Ytannklfnfacpeaa.geoAround
open Go.ChangeShapes Go.WideShapes Go.ChangeAt Go.RowKit Go.Proofs.YtannklfnfacpeaaW.PrintWords Go.Proofs.Ytannklfnfacpeaa.X Go.Proofs.Ytannklfnfacpeaa.HOpen
open Go.ChangeMaps (open_string shut_string)
set_option linter.unusedVariables false
theorem own : ownKnob Try.prog.godebug = none := by kernel_rfl
theorem laidOut : laidOutB Try.prog = true := by kernel_rfl
theorem opens_k23 : Opens Try.prog 23 k23 good23 := by
  have h := Opens.iso (fun s : S23 => (s.f0, s.f1)) (fun p => (⟨p.1, p.2⟩ : S23)) (fun p => rfl) (Opens.struct Try.underlying23 (by kernel_rfl) (OpensF.cons rfl (Opens.int (by kernel_rfl) Try.underlying3) (OpensF.one rfl (Opens.int (by kernel_rfl) Try.underlying3))))
  exact h.mono (fun s hs => hs)
set_option maxRecDepth 100000 in
theorem lifted (os : Os) (started : os.Started) (H : Type) (enc : TypeId × Value → H) :
    ReturnsInHanded {} Try.checked os 10 .any (Rows.geoAroundSpec.pre6 enc Try.prog Try.f10 Rows.geoAroundRow.domain false) (Rows.geoAroundSpec.post enc Try.prog Try.f10 false true false false) := by
  refine returnsInHanded_of_change_sized (C := Try.checked) own started (by kernel_rfl) Try.func10
    (ChangeSpec.witness6 (enc := enc) (C := Try.checked) false ⟨#[], #[.slice none 0 0, .agg #[.int .i64 0, .int .i64 0], .agg #[.int .i64 0, .bool false]], []⟩ 8 (by kernel_rfl) (by kernel_rfl) (by kernel_rfl) (by kernel_rfl)) ?_
  intro W base args ds gs before hval0 hW hcnd hsz0 _
  have hsz : (DataW.weightsEach Try.prog (Try.f10.params.toList ++ Rows.geoAroundSpec.plain.varTypes Try.prog) (ds ++ gs)).all (· ≤ reachBytes) = true := hsz0
  have hval : ∀ (j : Nat) t v, Try.f10.params[j]? = some t → args[j]? = some v → Value.okWide Try.prog W .any base t v := hval0
  have hW' := hW
  obtain ⟨p, q, hA0, hV, rfl, hfz, hnd⟩ := hW
  have hA : DataW.TrodAll enc Try.prog W 0 (fun _ => true) true Try.f10.params.toList args.toList ds p := hA0
  rw [Try.params10] at hA hval hsz
  obtain ⟨v0, vs0, d0, ds0, p0, q0, hargs, rfl, rfl, h0, r0⟩ := trodAll_cons hA
  obtain ⟨v1, vs1, d1, ds1, p1, q1, rfl, rfl, rfl, h1, r1⟩ := trodAll_cons r0
  obtain ⟨v2, vs2, d2, ds2, p2, q2, rfl, rfl, rfl, h2, r2⟩ := trodAll_cons r1
  obtain ⟨rfl, rfl, rfl⟩ := trodAll_nil r2
  obtain rfl : args = #[v0, v1, v2] := by cases args; simp_all
  obtain ⟨rfl, rfl⟩ := trodVars_none hV
  have k0 := h0
  have lt0 : ∀ x ∈ p0, x.block < W.heap.size := by obtain ⟨m, hm⟩ := k0; exact DataW.trod_lt m _ _ _ hm
  have wt0 := weights_arg hsz 0 rfl rfl
  obtain ⟨ad0, len0, cap0, rfl⟩ := okWide_slice Try.underlying35 (hval 0 35 v0 rfl rfl)
  obtain ⟨fu0, hf0⟩ := h0
  obtain ⟨l0, ⟨A0, c0, e0, hc0, hr0⟩, g0⟩ := (show Opens Try.prog 35 (Kd.slice 23 k23) _ from (Opens.slice 16 (by kernel_rfl) Try.underlying35 (by kernel_rfl) opens_k23)).op hf0 wt0
  obtain ⟨rfl, rfl, rfl⟩ : ad0 = A0 ∧ len0 = l0.length ∧ cap0 = c0 := by simpa [Value.cells] using e0
  have k1 := h1
  have lt1 : ∀ x ∈ p1, x.block < W.heap.size := by obtain ⟨m, hm⟩ := k1; exact DataW.trod_lt m _ _ _ hm
  have wt1 := weights_arg hsz 1 rfl rfl
  obtain ⟨cs1, rfl, hcs1⟩ := okWide_struct Try.underlying23 (hval 1 23 v1 rfl rfl)
  obtain ⟨fu1, hf1⟩ := h1
  obtain ⟨cl1, ecl1⟩ : ∃ cl, cl = (Value.agg cs1).cells.toList := ⟨_, rfl⟩
  rw [← ecl1] at hf1
  obtain ⟨⟨a1_0, a1_1⟩, ⟨_, _, rfl, rfl, rfl⟩, ⟨g1_0, g1_1⟩⟩ := (show Opens Try.prog 23 (Kd.pair (Kd.int .i64) (Kd.int .i64)) _ from (Opens.struct Try.underlying23 (by kernel_rfl) (OpensF.cons rfl (Opens.int (by kernel_rfl) Try.underlying3) (OpensF.one rfl (Opens.int (by kernel_rfl) Try.underlying3))))).op hf1 wt1
  obtain rfl : cs1 = #[.int .i64 a1_0, .int .i64 a1_1] := by have := congrArg List.toArray ecl1; simpa [Value.cells] using this.symm
  have k2 := h2
  have lt2 : ∀ x ∈ p2, x.block < W.heap.size := by obtain ⟨m, hm⟩ := k2; exact DataW.trod_lt m _ _ _ hm
  have wt2 := weights_arg hsz 2 rfl rfl
  obtain ⟨cs2, rfl, hcs2⟩ := okWide_struct Try.underlying52 (hval 2 52 v2 rfl rfl)
  obtain ⟨fu2, hf2⟩ := h2
  obtain ⟨cl2, ecl2⟩ : ∃ cl, cl = (Value.agg cs2).cells.toList := ⟨_, rfl⟩
  rw [← ecl2] at hf2
  obtain ⟨⟨a2_0, a2_1⟩, ⟨_, _, rfl, rfl, rfl⟩, ⟨g2_0, g2_1⟩⟩ := (show Opens Try.prog 52 (Kd.pair (Kd.int .i64) Kd.bool) _ from (Opens.struct Try.underlying52 (by kernel_rfl) (OpensF.cons rfl (Opens.int (by kernel_rfl) Try.underlying3) (OpensF.one rfl (Opens.bool (by kernel_rfl) Try.underlying4))))).op hf2 wt2
  obtain rfl : cs2 = #[.int .i64 a2_0, .bool a2_1] := by have := congrArg List.toArray ecl2; simpa [Value.cells] using this.symm
  clear hA0 hval0 hsz0 hsz
  obtain ⟨k, h⟩ := X.GeoAround l0 a1_0 a1_1 a2_0 a2_1 g0 g1_0 g1_1 g2_0
  refine (windhoverlaw09_GeoAround.calls k _ _ l0 a1_0 a1_1 a2_0 a2_1 true W hr0 hc0 h).mono fun e W' ⟨he, bel0⟩ => ?_
  have bel := bel0
  subst he
  exact ⟨_, rfl, _, _, _, [], _, [], hW', trodAll_mk1 (shut_bool Try.underlying4 _), (trodAll_cons_mk (Below.trod laidOut (by kernel_rfl) (of_decide_eq_true (by kernel_rfl)) k0 bel lt0) (trodAll_cons_mk (Below.trod laidOut (by kernel_rfl) (of_decide_eq_true (by kernel_rfl)) k1 bel lt1) (trodAll_cons_mk (Below.trod laidOut (by kernel_rfl) (of_decide_eq_true (by kernel_rfl)) k2 bel lt2) trodAll_mk0))), rfl, bel.frame _, fun h => by cases h⟩
theorem over : Rows.geoAroundRow.holds Try.pinned (OpenSpec.ofChange Rows.geoAroundSpec) :=
  OpenClaim.holds_of_wide 10 Try.f10 rfl rfl rfl rfl rfl rfl rfl ⟨rfl, rfl, rfl, rfl, rfl⟩ rfl rfl rfl rfl rfl (by kernel_rfl) Try.func10 (by kernel_rfl)
    (of_decide_eq_true (by kernel_rfl)) (by unfold Func.isWrapper; first | (rw [if_pos (by decide +kernel)]; kernel_rfl) | (rw [if_neg (by decide +kernel)]; exact ⟨rfl, rfl⟩))
    (fun os started H enc _ => lifted os started H enc)
theorem proved : Rows.GeoAroundSaid := over
#print axioms proved
end Go.Proofs.Ytannklfnfacpeaa.geoAround
namespace Go.Proofs.Ytannklfnfacpeaa
/-- The row, under a short name, for the claim. -/
theorem geoAround_holds : Rows.GeoAroundSaid := geoAround.proved
end Go.Proofs.Ytannklfnfacpeaa
