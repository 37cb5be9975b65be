/- What geo.tangled and geo.Simple answer: each loop comes to its end. -/
import Derived.Test.YtannklfnfacpeaaXMMeetV
import Derived.Test.YtannklfnfacpeaaXHSimple
import Derived.Test.YtannklfnfacpeaaXx4
import Derived.Test.YtannklfnfacpeaaXx3
namespace Go.Proofs.Ytannklfnfacpeaa.X
open Go.RowKit Go.Proofs.YtannklfnfacpeaaW.PrintWords Go.Proofs.YtannklfnfacpeaaW.PrintLast Go.Proofs.YtannklfnfacpeaaW.PrintMore
set_option linter.unusedVariables false
set_option linter.unusedSimpArgs false
def spikeV (a0 a1 b0 b1 c0 c1 : Int) : Bool := (geo_spike.f a0 a1 b0 b1 c0 c1).getD false
theorem spike_some (a0 a1 b0 b1 c0 c1 : Int) : geo_spike.f a0 a1 b0 b1 c0 c1 = some (spikeV a0 a1 b0 b1 c0 c1) := by
  have h : ∃ r, geo_spike.f a0 a1 b0 b1 c0 c1 = some r := by
    simp only [geo_spike.f, geo_cross.f, Option.bind_some]
    split <;> exact ⟨_, rfl⟩
  obtain ⟨r, hr⟩ := h
  simp [spikeV, hr]
def pt (l : List S23) (i : Nat) : S23 := rd_T23 l (i : Int)
def nx (l : List S23) (i : Nat) : S23 := rd_T23 l ((i % l.length : Nat) : Int)
def spikeAt (l : List S23) (i : Nat) : Bool := spikeV (pt l i).f0 (pt l i).f1 (nx l (i + 1)).f0 (nx l (i + 1)).f1 (nx l (i + 2)).f0 (nx l (i + 2)).f1
def pairAt (l : List S23) (i j : Nat) : Bool := meetV (pt l i).f0 (pt l i).f1 (pt l (i + 1)).f0 (pt l (i + 1)).f1 (pt l j).f0 (pt l j).f1 (nx l (j + 1)).f0 (nx l (j + 1)).f1
/-- The last m sides j, against side i. -/
def inner (l : List S23) (i : Nat) : Nat → Bool
  | 0 => false
  | m + 1 => (if i = 0 ∧ l.length - (m + 1) = l.length - 1 then false else pairAt l i (l.length - (m + 1))) || inner l i m
/-- The last m corners i. -/
def outer (l : List S23) : Nat → Bool
  | 0 => false
  | m + 1 => spikeAt l (l.length - (m + 1)) || (inner l (l.length - (m + 1)) (m - 1) || outer l m)
def tangledV (l : List S23) : Bool := outer l l.length
theorem w64n (n : Nat) (h : n ≤ 1000) : wrap64 (n : Int) = (n : Int) := w64 (by omega) (by omega)
theorem tmodn (a b : Nat) : Int.tmod (a : Int) (b : Int) = ((a % b : Nat) : Int) := rfl
theorem j2_false {l : List S23} {i j : Nat} {r : Bool} (hi : i + 1 < l.length) (hj : j < l.length) (hn : l.length ≤ 64)
    (R : Ev (fun k => geo_tangled.l1 k l (l.length : Int) (i : Int) ((j + 1 : Nat) : Int) (l.length : Int) (i : Int)) r) :
    Ev (fun k => geo_tangled.j2 k l (l.length : Int) (i : Int) (j : Int) (l.length : Int) (i : Int) false) (pairAt l i j || r) := by
  have e1 : wrap64 ((i : Int) + 1) = ((i + 1 : Nat) : Int) := w64n (i + 1) (by omega)
  have e2 : wrap64 ((j : Int) + 1) = ((j + 1 : Nat) : Int) := w64n (j + 1) (by omega)
  have hm : (j + 1) % l.length < l.length := Nat.mod_lt _ (by omega)
  have hM := meet_ev (pt l i).f0 (pt l i).f1 (pt l (i + 1)).f0 (pt l (i + 1)).f1 (pt l j).f0 (pt l j).f1 (nx l (j + 1)).f0 (nx l (j + 1)).f1
  refine Ev.step (f := fun k => (geo_meet.f k (pt l i).f0 (pt l i).f1 (pt l (i + 1)).f0 (pt l (i + 1)).f1 (pt l j).f0 (pt l j).f1 (nx l (j + 1)).f0 (nx l (j + 1)).f1).bind fun t => if t = true then some true else geo_tangled.l1 k l (l.length : Int) (i : Int) ((j + 1 : Nat) : Int) (l.length : Int) (i : Int)) (fun k => ?_) (Ev.bind hM ?_)
  · rw [geo_tangled.j2]
    simp only [Bool.false_eq_true, if_false]
    rw [if_pos (by omega), if_pos (by omega), e1, if_pos (by omega), if_pos (by omega), if_pos (by omega), if_pos (by omega), if_neg (by omega), e2, tmodn, if_pos (by omega), if_pos (by omega)]
    rfl
  · change Ev _ (pairAt l i j || r)
    have : meetV (pt l i).f0 (pt l i).f1 (pt l (i + 1)).f0 (pt l (i + 1)).f1 (pt l j).f0 (pt l j).f1 (nx l (j + 1)).f0 (nx l (j + 1)).f1 = pairAt l i j := rfl
    rw [this]
    cases pairAt l i j with
    | true => exact Ev.now _
    | false => exact R
theorem inner_ev {l : List S23} {i : Nat} {r : Bool} (hi : i < l.length) (hn : l.length ≤ 64) (R : Ev (fun k => geo_tangled.l0 k l (l.length : Int) (l.length : Int) ((i + 1 : Nat) : Int)) r) :
    ∀ (m j : Nat), l.length - j = m → i + 2 ≤ j → j ≤ l.length + 1 → Ev (fun k => geo_tangled.l1 k l (l.length : Int) (i : Int) (j : Int) (l.length : Int) (i : Int)) (inner l i m || r)
  | 0, j, hm, hj, hj' => by
    have e1 : wrap64 ((i : Int) + 1) = ((i + 1 : Nat) : Int) := w64n (i + 1) (by omega)
    refine Ev.step (f := fun k => geo_tangled.l0 k l (l.length : Int) (l.length : Int) ((i + 1 : Nat) : Int)) (fun k => ?_) R
    rw [geo_tangled.l1, if_neg (by omega), e1]
  | m + 1, j, hm, hj, hj' => by
    have ih := inner_ev hi hn R m (j + 1) (by omega) (by omega) (by omega)
    have ej : l.length - (m + 1) = j := by omega
    have e2 : wrap64 ((j : Int) + 1) = ((j + 1 : Nat) : Int) := w64n (j + 1) (by omega)
    have e3 : wrap64 ((l.length : Int) - 1) = (l.length : Int) - 1 := w64 (by omega) (by omega)
    rw [inner, ej, Bool.or_assoc]
    by_cases c : i = 0 ∧ j = l.length - 1
    · rw [if_pos c, Bool.false_or]
      refine Ev.step (f := fun k => geo_tangled.j2 k l (l.length : Int) (i : Int) (j : Int) (l.length : Int) (i : Int) true) (fun k => ?_) (Ev.step (f := fun k => geo_tangled.l1 k l (l.length : Int) (i : Int) ((j + 1 : Nat) : Int) (l.length : Int) (i : Int)) (fun k => ?_) ih)
      · rw [geo_tangled.l1, if_pos (by omega), if_pos (by omega), e3, show ((j : Int) == (l.length : Int) - 1) = true from beq_iff_eq.2 (by omega)]
      · rw [geo_tangled.j2, if_pos rfl, e2]
    · rw [if_neg c]
      refine Ev.step (f := fun k => geo_tangled.j2 k l (l.length : Int) (i : Int) (j : Int) (l.length : Int) (i : Int) false) (fun k => ?_) (j2_false (by omega) (by omega) hn ih)
      rw [geo_tangled.l1, if_pos (by omega)]
      by_cases c1 : i = 0
      · rw [if_pos (by omega), e3, show ((j : Int) == (l.length : Int) - 1) = false from beq_eq_false_iff_ne.2 (by omega)]
      · rw [if_neg (by omega)]
theorem outer_ev {l : List S23} (h3 : 3 ≤ l.length) (hn : l.length ≤ 64) : ∀ (m i : Nat), i + m = l.length → Ev (fun k => geo_tangled.l0 k l (l.length : Int) (l.length : Int) (i : Int)) (outer l m)
  | 0, i, hm => by
    refine Ev.step (f := fun _ => some false) (fun k => ?_) (Ev.now _)
    rw [geo_tangled.l0, if_neg (by omega)]
  | m + 1, i, hm => by
    have ih := outer_ev h3 hn m (i + 1) (by omega)
    have ei : l.length - (m + 1) = i := by omega
    have e1 : wrap64 ((i : Int) + 1) = ((i + 1 : Nat) : Int) := w64n (i + 1) (by omega)
    have e2 : wrap64 ((i : Int) + 2) = ((i + 2 : Nat) : Int) := w64n (i + 2) (by omega)
    have hm1 : (i + 1) % l.length < l.length := Nat.mod_lt _ (by omega)
    have hm2 : (i + 2) % l.length < l.length := Nat.mod_lt _ (by omega)
    have ihi := inner_ev (show i < l.length by omega) hn ih (m - 1) (i + 2) (by omega) (by omega) (by omega)
    rw [outer, ei]
    refine Ev.step (f := fun k => if spikeAt l i = true then some true else geo_tangled.l1 k l (l.length : Int) (i : Int) ((i + 2 : Nat) : Int) (l.length : Int) (i : Int)) (fun k => ?_) ?_
    · rw [geo_tangled.l0, if_pos (by omega), if_pos (by omega), if_pos (by omega), if_neg (by omega), e1, e2, tmodn, tmodn, if_pos (by omega), if_pos (by omega), if_pos (by omega), if_pos (by omega), spike_some, Option.bind_some]
      rfl
    · cases spikeAt l i with
      | true => exact Ev.now _
      | false => exact ihi
theorem tangled_ev {l : List S23} (h3 : 3 ≤ l.length) (hn : l.length ≤ 64) : Ev (fun k => geo_tangled.f k l) (tangledV l) := outer_ev h3 hn l.length 0 (by omega)
/-- What is wrong with a polygon. -/
def simpleV (l : List S23) : Int := if l.length < 3 then 90 else if 64 < l.length then 4 else if l.any outP = true then 5 else if (upt l l.length).any twin = true then 91 else if tangledV l = true then 92 else 0
theorem simple_ev (l : List S23) : Ev (fun k => geo_Simple.f k l) (simpleV l) := by
  unfold geo_Simple.f simpleV
  by_cases c1 : l.length < 3
  · rw [if_pos c1]; exact Ev.congr (fun k => if_pos c1) (Ev.now _)
  by_cases c2 : 64 < l.length
  · rw [if_neg c1, if_pos c2]; exact Ev.congr (fun k => by rw [if_neg c1, if_pos c2]) (Ev.now _)
  rw [if_neg c1, if_neg c2]
  refine Ev.congr (f := fun k => if l.any outP = true then some 5 else if (upt l l.length).any twin = true then some 91 else (geo_tangled.f k l).bind fun t => if t = true then some 92 else some 0) (fun k => ?_) ?_
  · rw [if_neg c1, if_neg c2, fits_geo l (by omega), Option.bind_some]
    cases l.any outP <;> rfl
  by_cases c3 : l.any outP = true
  · rw [if_pos c3]; exact Ev.congr (fun k => if_pos c3) (Ev.now _)
  by_cases c4 : (upt l l.length).any twin = true
  · rw [if_neg c3, if_pos c4]; exact Ev.congr (fun k => by rw [if_neg c3, if_pos c4]) (Ev.now _)
  rw [if_neg c3, if_neg c4]
  refine Ev.congr (f := fun k => (geo_tangled.f k l).bind fun t => if t = true then some 92 else some 0) (fun k => by rw [if_neg c3, if_neg c4]) (Ev.bind (tangled_ev (by omega) (by omega)) ?_)
  cases tangledV l <;> exact Ev.now _
theorem simpleV_zero {l : List S23} (h : simpleV l = 0) : 3 ≤ l.length ∧ l.length ≤ 64 ∧ l.any outP = false ∧ (upt l l.length).any twin = false ∧ tangledV l = false := by
  unfold simpleV at h
  repeat' split at h
  all_goals first | omega | skip
  exact ⟨by omega, by omega, Bool.eq_false_iff.mpr ‹_›, Bool.eq_false_iff.mpr ‹_›, Bool.eq_false_iff.mpr ‹_›⟩
end Go.Proofs.Ytannklfnfacpeaa.X
