/- The side of a line in whole numbers, without the document's functions; the chapter's examples (awake). -/
import Derived.Test.YtannklfnfacpeaaXx5
import Derived.Test.YtannklfnfacpeaaXHTouches
import Derived.Test.YtannklfnfacpeaaXMCore
namespace Go.Proofs.Ytannklfnfacpeaa.X
open Go.RowKit Go.Proofs.YtannklfnfacpeaaW.PrintWords Go.Proofs.YtannklfnfacpeaaW.PrintLast Go.Proofs.YtannklfnfacpeaaW.PrintMore
set_option linter.unusedVariables false
set_option linter.unusedSimpArgs false
theorem awake_ev : Ev (fun k => windhoverlaw09_awake.f k) true := Ev.of windhoverlaw09_awake.mono (k := 40) (by decide +kernel)
theorem w64 {n : Int} (h0 : -9223372036854775808 ≤ n) (h1 : n ≤ 9223372036854775807) : wrap64 n = n := by unfold wrap64; omega
theorem prod_le {x y : Int} (hx0 : -1073741824 ≤ x) (hx1 : x ≤ 1073741824) (hy0 : -1073741824 ≤ y) (hy1 : y ≤ 1073741824) : -1152921504606846976 ≤ x * y ∧ x * y ≤ 1152921504606846976 := by
  have h1 := Int.mul_nonneg (a := 1073741824 - x) (b := 1073741824 + y) (by omega) (by omega)
  have h2 := Int.mul_nonneg (a := 1073741824 + x) (b := 1073741824 - y) (by omega) (by omega)
  have h3 := Int.mul_nonneg (a := 1073741824 - x) (b := 1073741824 - y) (by omega) (by omega)
  have h4 := Int.mul_nonneg (a := 1073741824 + x) (b := 1073741824 + y) (by omega) (by omega)
  simp only [Int.sub_mul, Int.mul_sub, Int.add_mul, Int.mul_add] at h1 h2 h3 h4
  omega
def crossW (a0 a1 b0 b1 p0 p1 : Int) : Int := wrap64 (wrap64 (wrap64 (b0 - a0) * wrap64 (p1 - a1)) - wrap64 (wrap64 (b1 - a1) * wrap64 (p0 - a0)))
def sgnI (n : Int) : Int := if n > 0 then 1 else if n < 0 then -1 else 0
/-- Within the bounds. -/
def InB (x : Int) : Prop := -536870912 ≤ x ∧ x ≤ 536870912
theorem crossW_in {a0 a1 b0 b1 p0 p1 : Int} (h0 : InB a0) (h1 : InB a1) (h2 : InB b0) (h3 : InB b1) (h4 : InB p0) (h5 : InB p1) : crossW a0 a1 b0 b1 p0 p1 = crossI a0 a1 b0 b1 p0 p1 := by
  unfold InB at *
  unfold crossW crossI
  rw [w64 (n := b0 - a0) (by omega) (by omega), w64 (n := p1 - a1) (by omega) (by omega), w64 (n := b1 - a1) (by omega) (by omega), w64 (n := p0 - a0) (by omega) (by omega)]
  have e1 := prod_le (x := b0 - a0) (y := p1 - a1) (by omega) (by omega) (by omega) (by omega)
  have e2 := prod_le (x := b1 - a1) (y := p0 - a0) (by omega) (by omega) (by omega) (by omega)
  rw [w64 (n := (b0 - a0) * (p1 - a1)) (by omega) (by omega), w64 (n := (b1 - a1) * (p0 - a0)) (by omega) (by omega)]
  exact w64 (by omega) (by omega)
theorem turnV_eq (a0 a1 b0 b1 p0 p1 : Int) : turnV a0 a1 b0 b1 p0 p1 = sgnI (crossW a0 a1 b0 b1 p0 p1) := by
  simp only [turnV, geo_turn.f, geo_cross.f, cmp_Compare_int.f, cmp_isNaN_int.f, Option.bind_some, bne_self_eq_false, Bool.false_eq_true, if_false]
  unfold sgnI
  change ((if crossW a0 a1 b0 b1 p0 p1 < 0 then some (-1) else if crossW a0 a1 b0 b1 p0 p1 > 0 then some 1 else some 0 : Option Int).bind fun t => some t).getD 0 = _
  generalize crossW a0 a1 b0 b1 p0 p1 = n
  repeat' split
  all_goals first | rfl | omega
theorem outP_eq (x y : Int) : outP ⟨x, y⟩ = false ↔ InB x ∧ InB y := by
  simp only [outP, decide_eq_false_iff_not, InB]
  omega
theorem fits_geo (l : List S23) (h : l.length ≤ 64) : geo_fits.f l = some (!l.any outP) := by rw [geo_fits.f, if_pos (by omega)]
theorem sgnI_neg (n : Int) : sgnI (-n) = -sgnI n := by
  unfold sgnI
  repeat' split
  all_goals omega
theorem sgnI_cases (n : Int) : sgnI n = 1 ∧ n > 0 ∨ sgnI n = 0 ∧ n = 0 ∨ sgnI n = -1 ∧ n < 0 := by
  unfold sgnI
  repeat' split
  all_goals omega
end Go.Proofs.Ytannklfnfacpeaa.X
