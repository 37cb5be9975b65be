/- The plain law behind GeoAround. -/
import Derived.Test.YtannklfnfacpeaaXx7
import Derived.Test.YtannklfnfacpeaaXMTurn
import Derived.Test.YtannklfnfacpeaaXMLent
namespace Go.Proofs.Ytannklfnfacpeaa.X
open Go.RowKit Go.Proofs.YtannklfnfacpeaaW.PrintWords Go.Proofs.YtannklfnfacpeaaW.PrintLast
set_option linter.unusedVariables false
def good23 (s : S23) : Prop := ((Lit.int .i64 s.f0).wf = true) ∧ ((Lit.int .i64 s.f1).wf = true)
def sideA (l : List S23) (p q : Int) : Int × Int := if simpleV l = 0 then (if outP ⟨p, q⟩ = true then (0, 5) else (sideV l p q, 0)) else (0, simpleV l)
theorem side_geo_any (l : List S23) (p q : Int) : Ev (fun k => geo_Side.f k l p q) (sideA l p q) := by
  unfold geo_Side.f sideA
  refine Ev.bind (simple_ev l) ?_
  by_cases c : simpleV l = 0
  · simp only [if_pos c]
    refine Ev.congr (f := fun _ => some (if outP ⟨p, q⟩ = true then (0, 5) else (sideV l p q, 0))) (fun k => ?_) (Ev.now _)
    rw [fits_geo _ (by simp), Option.bind_some]
    cases ho : outP ⟨p, q⟩ <;> simp [ho]
  · simp only [if_neg c]
    exact Ev.now _
theorem around_turn {l : List S23} {K : Nat} {b : Bool} (p q : Int) : simpleV (roundV l K b) = simpleV l ∧ sideA (roundV l K b) p q = sideA l p q ∧ (areaV (roundV l K b)).2 = (areaV l).2 ∧
    (areaV l).1 = (if b = true then wrap64 (-(areaV (roundV l K b)).1) else (areaV (roundV l K b)).1) ∧ ((areaV l).2 = 0 → (areaV l).1 ≠ 0) := by
  by_cases h0 : 0 < l.length
  · have h := Tu.of h0 K b
    have hs := h.simple
    by_cases c : simpleV l = 0
    · have hsa : sideA (roundV l K b) p q = sideA l p q := by
        unfold sideA
        rw [hs, if_pos c, if_pos c]
        cases ho : outP ⟨p, q⟩ with
        | true => rfl
        | false => rw [h.side c ((outP_eq _ _).1 ho)]
      have co : simpleV (roundV l K b) = 0 := by rw [hs]; exact c
      have el : areaV l = (shoes l l.length, 0) := by
        have a := area_fine c
        rw [areaV, if_pos c, w64 (by omega) (by omega)]
      have eo : areaV (roundV l K b) = (shoes (roundV l K b) (roundV l K b).length, 0) := by
        have a := area_fine co
        rw [areaV, if_pos co, w64 (by omega) (by omega)]
      have a := area_fine c
      clear c co
      rw [el, eo]
      refine ⟨hs, hsa, rfl, ?_, fun _ => a.1⟩
      have s := h.sum h0 sho (fun x y => sho_turn x y)
      rw [← shoes_sm _ (Nat.le_refl _), ← shoes_sm _ (Nat.le_refl _)] at s
      cases b with
      | true =>
        rw [if_pos rfl, s.2 ⟨-1 - (K : Int), fun z => by rw [roundV_cy h0, if_pos rfl]⟩, Int.neg_neg, w64 (by omega) (by omega)]
      | false =>
        rw [if_neg Bool.false_ne_true, s.1 ⟨(K : Int), fun z => by rw [roundV_cy h0, if_neg Bool.false_ne_true]⟩]
    · have co : ¬ simpleV (roundV l K b) = 0 := by rw [hs]; exact c
      have e1 : areaV l = (0, simpleV l) := by rw [areaV, if_neg c]
      have e2 : areaV (roundV l K b) = (0, simpleV l) := by rw [areaV, if_neg co, hs]
      refine ⟨hs, ?_, ?_, ?_, ?_⟩
      · rw [sideA, sideA, if_neg c, if_neg co, hs]
      · rw [e1, e2]
      · rw [e1, e2]
        cases b with
        | true => exact (by decide +kernel : (0 : Int) = wrap64 (-0))
        | false => rfl
      · rw [e1]
        exact fun g => absurd g c
  · obtain rfl : l = [] := List.length_eq_zero_iff.1 (by omega)
    have e : roundV [] K b = [] := rfl
    rw [e]
    refine ⟨rfl, rfl, rfl, ?_, ?_⟩
    · cases b <;> decide +kernel
    · intro g
      exact absurd g (by decide +kernel)
theorem GeoAround (l0 : List S23) (a1_0 : Int) (a1_1 : Int) (a2_0 : Int) (a2_1 : Bool) (w0 : l0.length * 16 ≤ 140737488351232 ∧ ∀ a ∈ l0, good23 a) (w1_0 : (Lit.int .i64 a1_0).wf = true) (w1_1 : (Lit.int .i64 a1_1).wf = true) (w2_0 : (Lit.int .i64 a2_0).wf = true) : ∃ k, windhoverlaw09_GeoAround.f k l0 a1_0 a1_1 a2_0 a2_1 = some true := by
  refine Ev.rounds (?_ : Ev (fun k => windhoverlaw09_GeoAround.f k l0 a1_0 a1_1 a2_0 a2_1) true)
  have early : Ev (fun k => windhoverlaw09_GeoAround.j0 k l0 true a1_0 a1_1 a2_0 a2_1) true := by
    refine Ev.step (f := fun k => (windhoverlaw09_awake.f k).bind fun t => some t) (fun k => by rw [windhoverlaw09_GeoAround.j0, if_pos rfl]) (Ev.bind awake_ev (Ev.now _))
  unfold windhoverlaw09_GeoAround.f
  by_cases c1 : a2_0 < 0
  · simp only [if_pos c1]
    exact early
  by_cases c2 : a2_0 > 1000
  · simp only [if_neg c1, if_pos c2]
    exact early
  simp only [if_neg c1, if_neg c2]
  by_cases c3 : (l0.length : Int) > 1000
  · simp only [decide_eq_true c3]
    exact early
  simp only [decide_eq_false c3]
  obtain ⟨K, rfl⟩ : ∃ K : Nat, a2_0 = (K : Int) := ⟨a2_0.toNat, by omega⟩
  have T := turned_ev (l := l0) (K := K) (b := a2_1) (by omega) (by omega)
  obtain ⟨h1, h2, h3, h4, h5⟩ := around_turn (l := l0) (K := K) (b := a2_1) a1_0 a1_1
  have hl := lent_some l0 w0.1
  have fin : ∀ n, n = (areaV l0).1 → Ev (fun k => windhoverlaw09_GeoAround.j1 k (simpleV l0) (simpleV (roundV l0 K a2_1)) (sideA l0 a1_0 a1_1).1 (sideA l0 a1_0 a1_1).2 (sideA (roundV l0 K a2_1) a1_0 a1_1).1 (sideA (roundV l0 K a2_1) a1_0 a1_1).2 (areaV l0).1 (areaV l0).2 n (areaV (roundV l0 K a2_1)).2) true := by
    intro n hn
    rw [h1, h2, h3, hn]
    by_cases g : (areaV l0).2 = 0
    · refine Ev.step (f := fun k => (windhoverlaw09_awake.f k).bind fun t => if t = true then windhoverlaw09_GeoAround.j2 k ((areaV l0).1 != 0) else windhoverlaw09_GeoAround.j2 k false) (fun k => ?_) (Ev.bind awake_ev ?_)
      · rw [windhoverlaw09_GeoAround.j1]
        simp only [if_true, if_pos g]
      · have : ((areaV l0).1 != 0) = true := by simpa using h5 g
        simp only [if_true, this]
        exact Ev.step (f := fun _ => some true) (fun k => rfl) (Ev.now _)
    · refine Ev.step (f := fun k => (windhoverlaw09_awake.f k).bind fun t => if t = true then windhoverlaw09_GeoAround.j2 k true else windhoverlaw09_GeoAround.j2 k false) (fun k => ?_) (Ev.bind awake_ev ?_)
      · rw [windhoverlaw09_GeoAround.j1]
        simp only [if_true, if_neg g]
      · simp only [if_true]
        exact Ev.step (f := fun _ => some true) (fun k => rfl) (Ev.now _)
  refine Ev.step (f := fun k => (windhoverlaw09_turned.f k l0 (K : Int) a2_1).bind fun t253 => ((geo_Simple.f k l0).bind fun t259 => ((geo_Simple.f k t253).bind fun t260 => ((geo_Side.f k l0 a1_0 a1_1).bind fun bt264 => ((geo_Side.f k t253 a1_0 a1_1).bind fun bt266 => ((geo_Area2.f k l0).bind fun bt271 => ((geo_Area2.f k t253).bind fun bt273 => (if a2_1 = true then (windhoverlaw09_GeoAround.j1 k t259 t260 bt264.1 bt264.2 bt266.1 bt266.2 bt271.1 bt271.2 (wrap64 (-bt273.1)) bt273.2) else (windhoverlaw09_GeoAround.j1 k t259 t260 bt264.1 bt264.2 bt266.1 bt266.2 bt271.1 bt271.2 bt273.1 bt273.2)))))))))
    (fun k => by rw [windhoverlaw09_GeoAround.j0, if_neg Bool.false_ne_true]; simp only [hl, Option.bind_some]) ?_
  refine Ev.bind T (Ev.bind (simple_ev l0) (Ev.bind (simple_ev _) (Ev.bind (side_geo_any l0 a1_0 a1_1) (Ev.bind (side_geo_any _ a1_0 a1_1) (Ev.bind (area2_geo l0) (Ev.bind (area2_geo _) ?_))))))
  cases a2_1 with
  | true =>
    simp only [if_true]
    exact fin _ (by rw [h4, if_pos rfl])
  | false =>
    simp only [Bool.false_eq_true, if_false]
    exact fin _ (by rw [h4, if_neg Bool.false_ne_true])
end Go.Proofs.Ytannklfnfacpeaa.X
