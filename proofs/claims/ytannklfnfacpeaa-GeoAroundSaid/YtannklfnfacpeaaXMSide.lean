/- What geo.Side answers at a corner, at the middle of a side, and beyond all corners. -/
import Derived.Test.YtannklfnfacpeaaXMTangle
import Derived.Test.YtannklfnfacpeaaXHSide
namespace Go.Proofs.Ytannklfnfacpeaa.X
open Go.RowKit Go.Proofs.YtannklfnfacpeaaW.PrintWords Go.Proofs.YtannklfnfacpeaaW.PrintLast Go.Proofs.YtannklfnfacpeaaW.PrintMore
set_option linter.unusedVariables false
set_option linter.unusedSimpArgs false
theorem side_ev {l : List S23} {p q : Int} (h : simpleV l = 0) (hp : outP ⟨p, q⟩ = false) : Ev (fun k => geo_Side.f k l p q) (sideV l p q, 0) := by
  unfold geo_Side.f
  refine Ev.bind (simple_ev l) ?_
  rw [h]
  refine Ev.congr (f := fun _ => some (sideV l p q, 0)) (fun k => ?_) (Ev.now _)
  rw [if_pos rfl, fits_geo _ (by simp), Option.bind_some]
  simp [hp]
theorem pt_in {l : List S23} (h : l.any outP = false) {i : Nat} (hi : i < l.length) : InB (pt l i).f0 ∧ InB (pt l i).f1 := by
  have e : pt l i = l[i] := by simp [pt, rd_T23, hi]
  have h1 := List.any_eq_false.1 h l[i] (List.getElem_mem hi)
  rw [e]
  exact (outP_eq _ _).1 (Bool.eq_false_iff.mpr h1)
theorem nx_pt {l : List S23} {i : Nat} (h : 0 < l.length) : ∃ j, j < l.length ∧ nx l i = pt l j := ⟨i % l.length, Nat.mod_lt _ h, rfl⟩
theorem upt_mem {l : List S23} {x : S23 × S23} (h : x ∈ upt l l.length) : ∃ i, i < l.length ∧ x = (pt l i, nx l (i + 1)) := by
  obtain ⟨i, hi, rfl⟩ := List.mem_map.1 h
  exact ⟨i, List.mem_range.1 hi, rfl⟩
theorem mem_upt {l : List S23} {i : Nat} (h : i < l.length) : (pt l i, nx l (i + 1)) ∈ upt l l.length := List.mem_map.2 ⟨i, List.mem_range.2 h, rfl⟩
theorem sideV_on {l : List S23} {i : Nat} {p q : Int} (h : i < l.length) (ho : onSide p q (pt l i, nx l (i + 1)) = true) : sideV l p q = 0 := by
  rw [sideV, if_pos (List.any_eq_true.2 ⟨_, mem_upt h, ho⟩)]
theorem sgnI_zero {n : Int} : sgnI n = 0 ↔ n = 0 := by have := sgnI_cases n; omega
theorem onSide_iff {a b : S23} {p q : Int} (ha : InB a.f0 ∧ InB a.f1) (hb : InB b.f0 ∧ InB b.f1) (hp : InB p ∧ InB q) : onSide p q (a, b) = true ↔ crossI a.f0 a.f1 b.f0 b.f1 p q = 0 ∧ Btw a.f0 b.f0 p ∧ Btw a.f1 b.f1 q := by
  unfold onSide turnP
  simp only [turnV_eq, crossW_in ha.1 ha.2 hb.1 hb.2 hp.1 hp.2, sgnI_zero]
  have o : ∀ x y z : Int, overV x y z z = true ↔ Btw x y z := by
    intro x y z
    rw [overV_iff]
    unfold Ov Btw
    omega
  by_cases c : crossI a.f0 a.f1 b.f0 b.f1 p q = 0
  · rw [if_pos c]
    by_cases c2 : overV a.f0 b.f0 p p = true
    · rw [if_pos c2, o]
      exact ⟨fun h => ⟨c, (o _ _ _).1 c2, h⟩, fun h => h.2.2⟩
    · rw [if_neg c2]
      exact ⟨fun h => (by cases h), fun h => absurd ((o _ _ _).2 h.2.1) c2⟩
  · rw [if_neg c]
    exact ⟨fun h => (by cases h), fun h => absurd h.1 c⟩
theorem on_corner {a b : S23} (ha : InB a.f0 ∧ InB a.f1) (hb : InB b.f0 ∧ InB b.f1) : onSide a.f0 a.f1 (a, b) = true := by
  rw [onSide_iff ha hb ha]
  refine ⟨?_, by unfold Btw; omega, by unfold Btw; omega⟩
  unfold crossI
  rw [Int.sub_self, Int.sub_self, Int.mul_zero, Int.mul_zero]
  rfl
theorem on_mid {a b : S23} {m0 m1 : Int} (ha : InB a.f0 ∧ InB a.f1) (hb : InB b.f0 ∧ InB b.f1) (h0 : a.f0 + b.f0 = 2 * m0) (h1 : a.f1 + b.f1 = 2 * m1) : onSide m0 m1 (a, b) = true := by
  have hm : InB m0 ∧ InB m1 := by unfold InB at *; omega
  rw [onSide_iff ha hb hm]
  refine ⟨?_, by unfold Btw; omega, by unfold Btw; omega⟩
  unfold crossI
  rw [show b.f0 - a.f0 = 2 * (m0 - a.f0) by omega, show b.f1 - a.f1 = 2 * (m1 - a.f1) by omega, Int.mul_assoc, Int.mul_assoc, Int.mul_comm (m1 - a.f1)]
  omega
theorem right_of {a0 a1 b0 b1 p q : Int} (h0 : a1 ≤ q) (h1 : q < b1) (ha : a0 < p) (hb : b0 < p) : crossI a0 a1 b0 b1 p q < 0 := by
  unfold crossI
  have k2 := Int.mul_lt_mul_of_pos_right (show b0 - a0 < p - a0 by omega) (show 0 < b1 - a1 by omega)
  rw [Int.mul_comm (b1 - a1)]
  by_cases c : 0 ≤ b0 - a0
  · have k1 := Int.mul_le_mul_of_nonneg_left (show q - a1 ≤ b1 - a1 by omega) c
    omega
  · have k1 := Int.mul_nonneg (show 0 ≤ -(b0 - a0) by omega) (show 0 ≤ q - a1 by omega)
    have k3 := Int.mul_pos (show 0 < p - a0 by omega) (show 0 < b1 - a1 by omega)
    rw [Int.neg_mul] at k1
    omega
theorem winds_none {p q : Int} : ∀ (xs : List (S23 × S23)) (r : Int), (∀ x ∈ xs, wind p q r x = r) → xs.foldl (wind p q) r = r
  | [], r, _ => rfl
  | x :: xs, r, h => by
    rw [List.foldl_cons, h x (List.mem_cons_self ..)]
    exact winds_none xs r fun y hy => h y (List.mem_cons_of_mem _ hy)
theorem sideV_out {l : List S23} {p q : Int} (h0 : 0 < l.length) (hin : l.any outP = false) (hp : InB p ∧ InB q) (hr : ∀ i, i < l.length → (pt l i).f0 < p) : sideV l p q = -1 := by
  have key : ∀ x ∈ upt l l.length, onSide p q x = false ∧ ∀ r, wind p q r x = r := by
    intro x hx
    obtain ⟨i, hi, rfl⟩ := upt_mem hx
    obtain ⟨j, hj, ej⟩ := nx_pt (l := l) (i := i + 1) h0
    rw [ej]
    have ha := pt_in hin hi
    have hb := pt_in hin hj
    have ra := hr i hi
    have rb := hr j hj
    constructor
    · refine Bool.eq_false_iff.mpr fun h => ?_
      have := ((onSide_iff ha hb hp).1 h).2.1
      unfold Btw at this
      omega
    · intro r
      unfold wind turnP
      simp only [turnV_eq, crossW_in ha.1 ha.2 hb.1 hb.2 hp.1 hp.2]
      have s := sgnI_cases (crossI (pt l i).f0 (pt l i).f1 (pt l j).f0 (pt l j).f1 p q)
      rw [if_neg, if_neg]
      · rintro ⟨h1, h2, h3⟩
        have := right_of (a0 := (pt l j).f0) (b0 := (pt l i).f0) h1 h2 rb ra
        rw [crossI_swap] at this
        omega
      · rintro ⟨h1, h2, h3⟩
        have := right_of (a0 := (pt l i).f0) (b0 := (pt l j).f0) h1 h2 ra rb
        omega
  rw [sideV, if_neg, if_pos]
  · exact winds_none _ _ fun x hx => (key x hx).2 0
  · intro h
    obtain ⟨x, hx, h⟩ := List.any_eq_true.1 h
    rw [(key x hx).1] at h
    cases h
end Go.Proofs.Ytannklfnfacpeaa.X
