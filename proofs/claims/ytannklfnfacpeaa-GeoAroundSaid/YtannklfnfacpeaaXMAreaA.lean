/- geo's area: the sum of a polygon's sides. -/
import Derived.Test.YtannklfnfacpeaaXMPolyA
import Derived.Test.YtannklfnfacpeaaXHArea
namespace Go.Proofs.Ytannklfnfacpeaa.X
open Go.RowKit Go.Proofs.YtannklfnfacpeaaW.PrintWords Go.Proofs.YtannklfnfacpeaaW.PrintLast Go.Proofs.YtannklfnfacpeaaW.PrintMore
set_option linter.unusedVariables false
set_option linter.unusedSimpArgs false
def sho (a b : S23) : Int := a.f0 * b.f1 - a.f1 * b.f0
/-- The sum over the first k sides. -/
def shoes (l : List S23) : Nat → Int
  | 0 => 0
  | k + 1 => shoes l k + sho (pt l k) (nx l (k + 1))
theorem wrap_add (a b : Int) : wrap64 (wrap64 a + b) = wrap64 (a + b) := by unfold wrap64; omega
theorem wrap_zero : wrap64 0 = 0 := by decide +kernel
theorem area_geo {l : List S23} (h : Fine l) : ∀ k, k ≤ l.length → areaW (upt l k) = wrap64 (shoes l k) := by
  intro k
  induction k with
  | zero => exact fun _ => wrap_zero.symm
  | succ k ih =>
    intro hk
    obtain ⟨j, hj, ej⟩ := nx_pt' (l := l) (i := k + 1) (by omega)
    have h1 := h.ins k (by omega)
    have h2 := h.ins j hj
    rw [← ej] at h2
    rw [upt_succ, areaW_snoc, ih (by omega)]
    change wrap64 (wrap64 (shoes l k) + wrap64 (wrap64 ((pt l k).f0 * (nx l (k + 1)).f1) - wrap64 ((pt l k).f1 * (nx l (k + 1)).f0))) = wrap64 (shoes l k + sho (pt l k) (nx l (k + 1)))
    unfold InB at h1 h2
    have k1 := prod_le (x := (pt l k).f0) (y := (nx l (k + 1)).f1) (by omega) (by omega) (by omega) (by omega)
    have k2 := prod_le (x := (pt l k).f1) (y := (nx l (k + 1)).f0) (by omega) (by omega) (by omega) (by omega)
    rw [w64 (n := (pt l k).f0 * (nx l (k + 1)).f1) (by omega) (by omega), w64 (n := (pt l k).f1 * (nx l (k + 1)).f0) (by omega) (by omega), w64 (n := (pt l k).f0 * (nx l (k + 1)).f1 - (pt l k).f1 * (nx l (k + 1)).f0) (by omega) (by omega), wrap_add]
    rfl
theorem fine_of {l : List S23} (h : simpleV l = 0) : Fine l ∧ l.length ≤ 64 := by
  have g := simpleV_zero h
  refine ⟨⟨g.1, fun i hi => ?_, fun i hi ht => ?_⟩, g.2.1⟩
  · have e : pt l i = l[i] := by simp [pt, rd_T23, hi]
    rw [e]
    exact (outP_eq _ _).1 (Bool.eq_false_iff.mpr (List.any_eq_false.1 g.2.2.1 l[i] (List.getElem_mem hi)))
  · refine List.any_eq_false.1 g.2.2.2.1 (pt l i, nx l (i + 1)) (List.mem_map.2 ⟨i, List.mem_range.2 hi, rfl⟩) ?_
    simp [twin, ht.1, ht.2]
def areaV (l : List S23) : Int × Int := if simpleV l = 0 then (wrap64 (shoes l l.length), 0) else (0, simpleV l)
theorem area2_geo (l : List S23) : Ev (fun k => geo_Area2.f k l) (areaV l) := by
  unfold geo_Area2.f areaV
  refine Ev.bind (simple_ev l) ?_
  by_cases c : simpleV l = 0
  · simp only [if_pos c]
    exact Ev.congr (f := fun _ => some (wrap64 (shoes l l.length), 0)) (fun k => by rw [area_geo (fine_of c).1 _ (Nat.le_refl _)]) (Ev.now _)
  · simp only [if_neg c]
    exact Ev.now _
end Go.Proofs.Ytannklfnfacpeaa.X
