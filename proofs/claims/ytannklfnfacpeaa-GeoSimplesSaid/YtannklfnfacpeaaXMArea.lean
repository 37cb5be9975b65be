/- The area of a polygon: geo's sum and the document's are the same. -/
import Derived.Test.YtannklfnfacpeaaXMPoly
import Derived.Test.YtannklfnfacpeaaXHArea
import Derived.Test.YtannklfnfacpeaaXx12
namespace Go.Proofs.Ytannklfnfacpeaa.X
open Go.RowKit Go.Proofs.YtannklfnfacpeaaW.PrintWords Go.Proofs.YtannklfnfacpeaaW.PrintLast Go.Proofs.YtannklfnfacpeaaW.PrintMore
set_option linter.unusedVariables false
set_option linter.unusedSimpArgs false
def sho (a b : S23) : Int := a.f0 * b.f1 - a.f1 * b.f0
/-- The sum over the first k sides. -/
def shoes (l : List S23) : Nat → Int
  | 0 => 0
  | k + 1 => shoes l k + sho (pt l k) (nx l (k + 1))
theorem wrap_add (a b : Int) : wrap64 (wrap64 a + b) = wrap64 (a + b) := by unfold wrap64; omega
theorem wrap_zero : wrap64 0 = 0 := by decide +kernel
theorem area_geo {l : List S23} (h : Fine l) : ∀ k, k ≤ l.length → areaW (upt l k) = wrap64 (shoes l k) := by
  intro k
  induction k with
  | zero => exact fun _ => wrap_zero.symm
  | succ k ih =>
    intro hk
    obtain ⟨j, hj, ej⟩ := nx_pt' (l := l) (i := k + 1) (by omega)
    have h1 := h.ins k (by omega)
    have h2 := h.ins j hj
    rw [← ej] at h2
    rw [upt_succ, areaW_snoc, ih (by omega)]
    change wrap64 (wrap64 (shoes l k) + wrap64 (wrap64 ((pt l k).f0 * (nx l (k + 1)).f1) - wrap64 ((pt l k).f1 * (nx l (k + 1)).f0))) = wrap64 (shoes l k + sho (pt l k) (nx l (k + 1)))
    unfold InB at h1 h2
    have k1 := prod_le (x := (pt l k).f0) (y := (nx l (k + 1)).f1) (by omega) (by omega) (by omega) (by omega)
    have k2 := prod_le (x := (pt l k).f1) (y := (nx l (k + 1)).f0) (by omega) (by omega) (by omega) (by omega)
    rw [w64 (n := (pt l k).f0 * (nx l (k + 1)).f1) (by omega) (by omega), w64 (n := (pt l k).f1 * (nx l (k + 1)).f0) (by omega) (by omega), w64 (n := (pt l k).f0 * (nx l (k + 1)).f1 - (pt l k).f1 * (nx l (k + 1)).f0) (by omega) (by omega), wrap_add]
    rfl
theorem sho_cross (o a b : S23) : crossI o.f0 o.f1 a.f0 a.f1 b.f0 b.f1 = sho a b - sho o b + sho o a := by
  unfold crossI sho
  simp only [Int.mul_sub, Int.sub_mul, Int.mul_comm]
  omega
theorem sho_back (a b : S23) : sho b a = -sho a b := by
  unfold sho
  rw [Int.mul_comm b.f0, Int.mul_comm b.f1]
  omega
theorem area_loop {l : List S23} (h : Fine l) (hn : l.length ≤ 64) : ∀ (m i : Nat), i + m + 1 = l.length → Ev (fun k => windhoverref09_Area2.l0 k l (wrap64 (shoes l i - sho (pt l 0) (pt l i))) (i : Int)) (wrap64 (shoes l l.length), 0) := by
  have hl := h.len
  intro m
  induction m with
  | zero =>
    intro i hi
    have e1 : wrap64 ((i : Int) + 1) = ((i + 1 : Nat) : Int) := w64n (i + 1) (by omega)
    refine Ev.step (f := fun _ => some (wrap64 (shoes l l.length), 0)) (fun k => ?_) (Ev.now _)
    rw [windhoverref09_Area2.l0, e1, if_neg (by omega)]
    have e : shoes l l.length = shoes l i - sho (pt l 0) (pt l i) := by
      have : l.length = i + 1 := by omega
      rw [show shoes l l.length = shoes l (i + 1) by rw [← this]]
      rw [shoes, ← this, nx_len (by omega), sho_back]
      omega
    rw [e]
  | succ m ih =>
    intro i hi
    have e1 : wrap64 ((i : Int) + 1) = ((i + 1 : Nat) : Int) := w64n (i + 1) (by omega)
    have h0 := h.ins 0 (by omega)
    have h1 := h.ins i (by omega)
    have h2 := h.ins (i + 1) (by omega)
    have e : wrap64 (wrap64 (shoes l i - sho (pt l 0) (pt l i)) + crossW (pt l 0).f0 (pt l 0).f1 (pt l i).f0 (pt l i).f1 (pt l (i + 1)).f0 (pt l (i + 1)).f1) = wrap64 (shoes l (i + 1) - sho (pt l 0) (pt l (i + 1))) := by
      rw [crossW_in h0.1 h0.2 h1.1 h1.2 h2.1 h2.2, wrap_add, sho_cross, shoes, nx_lt (by omega)]
      congr 1
      omega
    refine Ev.step (f := fun k => windhoverref09_Area2.l0 k l (wrap64 (shoes l (i + 1) - sho (pt l 0) (pt l (i + 1)))) ((i + 1 : Nat) : Int)) (fun k => ?_) (ih (i + 1) (by omega))
    rw [windhoverref09_Area2.l0, e1, if_pos (by omega), if_pos (by omega), if_pos (by omega), if_pos (by omega), if_pos (by omega), cross_ref, Option.bind_some, ← e]
    rfl
theorem fine_of {l : List S23} (h : simpleV l = 0) : Fine l ∧ l.length ≤ 64 := by
  have g := simpleV_zero h
  refine ⟨⟨g.1, fun i hi => ?_, fun i hi ht => ?_⟩, g.2.1⟩
  · have e : pt l i = l[i] := by simp [pt, rd_T23, hi]
    rw [e]
    exact (outP_eq _ _).1 (Bool.eq_false_iff.mpr (List.any_eq_false.1 g.2.2.1 l[i] (List.getElem_mem hi)))
  · refine List.any_eq_false.1 g.2.2.2.1 (pt l i, nx l (i + 1)) (List.mem_map.2 ⟨i, List.mem_range.2 hi, rfl⟩) ?_
    simp [twin, ht.1, ht.2]
def areaV (l : List S23) : Int × Int := if simpleV l = 0 then (wrap64 (shoes l l.length), 0) else (0, simpleV l)
theorem area2_geo (l : List S23) : Ev (fun k => geo_Area2.f k l) (areaV l) := by
  unfold geo_Area2.f areaV
  refine Ev.bind (simple_ev l) ?_
  by_cases c : simpleV l = 0
  · simp only [if_pos c]
    exact Ev.congr (f := fun _ => some (wrap64 (shoes l l.length), 0)) (fun k => by rw [area_geo (fine_of c).1 _ (Nat.le_refl _)]) (Ev.now _)
  · simp only [if_neg c]
    exact Ev.now _
theorem area2_ref (l : List S23) : Ev (fun k => windhoverref09_Area2.f k l) (areaV l) := by
  unfold windhoverref09_Area2.f areaV
  have hs := simple_ref l
  rw [refV_simple] at hs
  refine Ev.bind hs ?_
  by_cases c : simpleV l = 0
  · have hl := (fine_of c).1.len
    simp only [if_pos c]
    have e : shoes l 1 - sho (pt l 0) (pt l 1) = 0 := by
      rw [shoes, shoes, nx_lt (by omega), Nat.zero_add]
      omega
    have h := area_loop (fine_of c).1 (fine_of c).2 (l.length - 2) 1 (by omega)
    rw [e, wrap_zero] at h
    exact h
  · simp only [if_neg c]
    exact Ev.now _
end Go.Proofs.Ytannklfnfacpeaa.X
