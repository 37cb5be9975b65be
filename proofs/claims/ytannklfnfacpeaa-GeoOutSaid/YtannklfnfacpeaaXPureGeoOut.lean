/- The plain law behind GeoOut. -/
import Derived.Test.YtannklfnfacpeaaXx7
import Derived.Test.YtannklfnfacpeaaXMLent
import Derived.Test.YtannklfnfacpeaaXMSide
namespace Go.Proofs.Ytannklfnfacpeaa.X
open Go.RowKit Go.Proofs.YtannklfnfacpeaaW.PrintWords Go.Proofs.YtannklfnfacpeaaW.PrintLast
set_option linter.unusedVariables false
def good23 (s : S23) : Prop := ((Lit.int .i64 s.f0).wf = true) ∧ ((Lit.int .i64 s.f1).wf = true)
theorem pt_bool {b : Bool} {n : Int} (h : b = true ↔ n = 0) : b = (n == 0) := by
  rw [Bool.eq_iff_iff, h, beq_iff_eq]
section
variable {l : List S23} {by_ : Int} (hl : simpleV l = 0) (hw : -9223372036854775808 ≤ by_ ∧ by_ ≤ 9223372036854775807)
include hl hw
theorem out_end {r : Int} (hr : InB r) (hm : ∀ i, i < l.length → (pt l i).f0 ≤ r) : Ev (fun k => windhoverlaw09_GeoOut.l0 k l by_ r (l.length : Int)) true := by
  have h := simpleV_zero hl
  have e5 : ∀ b, b = decide (by_ < 1 ∨ r + by_ > 536870912) → Ev (fun k => windhoverlaw09_GeoOut.j4 k l by_ r b) true := by
    intro b hb
    cases b with
    | true => exact Ev.step (f := fun k => (windhoverlaw09_awake.f k).bind fun t => some t) (fun k => rfl) (Ev.bind awake_ev (Ev.now _))
    | false =>
      have hb' := of_decide_eq_false hb.symm
      unfold InB at hr
      have e1 : wrap64 (r + by_) = r + by_ := w64 (by omega) (by omega)
      have hp0 := pt_in h.2.2.1 (i := 0) (by omega)
      have hp : InB (r + by_) ∧ InB (pt l 0).f1 := ⟨by unfold InB; omega, hp0.2⟩
      have hs := side_ev (p := r + by_) (q := (pt l 0).f1) hl ((outP_eq _ _).2 hp)
      rw [sideV_out (by omega) h.2.2.1 hp (fun i hi => by have := hm i hi; omega)] at hs
      refine Ev.step (f := fun k => (geo_Side.f k l (r + by_) (pt l 0).f1).bind fun bt => (windhoverlaw09_awake.f k).bind fun t => if t = true then (if bt.1 = (-1) then some (bt.2 == 0) else some false) else some false) (fun k => ?_) (Ev.bind hs (Ev.bind awake_ev (Ev.congr (f := fun _ => some true) (fun k => rfl) (Ev.now _))))
      rw [windhoverlaw09_GeoOut.j4, if_neg (by decide), lent_some l (by omega), Option.bind_some, if_pos (by omega), windhoverlaw09_at.f, Option.bind_some, e1]
      rfl
  refine Ev.step (f := fun k => windhoverlaw09_GeoOut.j4 k l by_ r (decide (by_ < 1 ∨ r + by_ > 536870912))) (fun k => ?_) (e5 _ rfl)
  rw [windhoverlaw09_GeoOut.l0, if_neg (by omega)]
  unfold InB at hr
  by_cases c : by_ < 1
  · rw [if_pos c, decide_eq_true (Or.inl c)]
  · rw [if_neg c, w64 (n := 536870912 - by_) (by omega) (by omega)]
    congr 1
    rw [decide_eq_decide]
    omega
theorem out_loop : ∀ (m i : Nat) (r : Int), i + m = l.length → InB r → (∀ j, j < i → (pt l j).f0 ≤ r) → Ev (fun k => windhoverlaw09_GeoOut.l0 k l by_ r (i : Int)) true := by
  intro m
  induction m with
  | zero =>
    intro i r hm hr hj
    obtain rfl : i = l.length := by omega
    exact out_end hl hw hr hj
  | succ m ih0 =>
    intro i r hm hr hj
    have h := simpleV_zero hl
    have HL := Aside0.mk hl
    clear hl
    have hi : i < l.length := by omega
    have hp := pt_in h.2.2.1 hi
    obtain ⟨j, hjl, ej⟩ := nx_pt (l := l) (i := i + 1) (by omega)
    have hq : InB (nx l (i + 1)).f0 ∧ InB (nx l (i + 1)).f1 := by rw [ej]; exact pt_in h.2.2.1 hjl
    have hmx : InB (mx r (pt l i).f0) ∧ r ≤ mx r (pt l i).f0 ∧ (pt l i).f0 ≤ mx r (pt l i).f0 := by
      unfold mx InB at *
      split <;> omega
    have ih := ih0 (i + 1) (mx r (pt l i).f0) (by omega) hmx.1 (fun j' hj' => by
      by_cases c : j' = i
      · subst c; exact hmx.2.2
      · exact Int.le_trans (hj j' (by omega)) hmx.2.1)
    obtain ⟨r', er⟩ : ∃ r', mx r (pt l i).f0 = r' := ⟨_, rfl⟩
    rw [er] at ih
    have ER := Aside0.mk er
    clear er hmx
    have e1 : wrap64 ((i : Int) + 1) = ((i + 1 : Nat) : Int) := w64n (i + 1) (by omega)
    have hmod : (i + 1) % l.length < l.length := Nat.mod_lt _ (by omega)
    have i0 : (0 : Int) ≤ (i : Int) := by omega
    have i1 : (i : Int) < (l.length : Int) := by omega
    have cn : ¬ ((l.length : Int) = 0) := by omega
    have cm0 : (0 : Int) ≤ (((i + 1) % l.length : Nat) : Int) := by omega
    have cm1 : (((i + 1) % l.length : Nat) : Int) < (l.length : Int) := by omega
    have hll : l.length * 16 ≤ 140737488351232 := by omega
    have j4 : Ev (fun k => windhoverlaw09_GeoOut.l0 k l by_ r' (wrap64 ((i : Int) + 1))) true := by rw [e1]; exact ih
    have j3 : Ev (fun k => windhoverlaw09_GeoOut.j3 k l by_ r' (i : Int) false) true := Ev.step (f := fun k => windhoverlaw09_GeoOut.l0 k l by_ r' (wrap64 ((i : Int) + 1))) (fun k => rfl) j4
    have j2 : ∀ b, (b = true → ∃ m0 m1, (pt l i).f0 + (nx l (i + 1)).f0 = 2 * m0 ∧ (pt l i).f1 + (nx l (i + 1)).f1 = 2 * m1) → Ev (fun k => windhoverlaw09_GeoOut.j2 k l by_ r' (i : Int) b (nx l (i + 1)).f0 (nx l (i + 1)).f1) true := by
      intro b hb
      cases b with
      | false => exact Ev.step (f := fun k => windhoverlaw09_GeoOut.l0 k l by_ r' (wrap64 ((i : Int) + 1))) (fun k => rfl) j4
      | true =>
        obtain ⟨m0, m1, g0, g1⟩ := hb rfl
        have hin : InB m0 ∧ InB m1 := by unfold InB at *; omega
        have d0 : wrap64 (Int.tdiv (wrap64 ((pt l i).f0 + (nx l (i + 1)).f0)) 2) = m0 := by
          unfold InB at *
          rw [w64 (n := (pt l i).f0 + (nx l (i + 1)).f0) (by omega) (by omega), g0, Int.mul_tdiv_cancel_left _ (by decide)]
          exact w64 (by omega) (by omega)
        have d1 : wrap64 (Int.tdiv (wrap64 ((pt l i).f1 + (nx l (i + 1)).f1)) 2) = m1 := by
          unfold InB at *
          rw [w64 (n := (pt l i).f1 + (nx l (i + 1)).f1) (by omega) (by omega), g1, Int.mul_tdiv_cancel_left _ (by decide)]
          exact w64 (by omega) (by omega)
        have hs := side_ev (p := m0) (q := m1) HL.out ((outP_eq _ _).2 hin)
        rw [sideV_on hi (on_mid hp hq g0 g1)] at hs
        refine Ev.step (f := fun k => (geo_Side.f k l m0 m1).bind fun bt => if bt.1 = 0 then windhoverlaw09_GeoOut.j3 k l by_ r' (i : Int) (bt.2 != 0) else windhoverlaw09_GeoOut.j3 k l by_ r' (i : Int) true) (fun k => ?_) (Ev.bind hs j3)
        rw [windhoverlaw09_GeoOut.j2, if_pos rfl, lent_some l hll, Option.bind_some, if_pos i0, if_pos i1, windhoverlaw09_at.f, Option.bind_some]
        change (geo_Side.f k l (wrap64 (Int.tdiv (wrap64 ((pt l i).f0 + (nx l (i + 1)).f0)) 2)) (wrap64 (Int.tdiv (wrap64 ((pt l i).f1 + (nx l (i + 1)).f1)) 2))).bind _ = _
        rw [d0, d1]
    have j1 : Ev (fun k => windhoverlaw09_GeoOut.j1 k l by_ r' (i : Int) false) true := by
      unfold InB at hp hq
      have s0 : wrap64 ((pt l i).f0 + (nx l (i + 1)).f0) = (pt l i).f0 + (nx l (i + 1)).f0 := w64 (by omega) (by omega)
      have s1 : wrap64 ((pt l i).f1 + (nx l (i + 1)).f1) = (pt l i).f1 + (nx l (i + 1)).f1 := w64 (by omega) (by omega)
      have ev : ∀ n : Int, Int.tmod n 2 = 0 → ∃ m, n = 2 * m := fun n hn => ⟨Int.tdiv n 2, by have := Int.mul_tdiv_add_tmod n 2; omega⟩
      by_cases c : Int.tmod ((pt l i).f0 + (nx l (i + 1)).f0) 2 = 0
      · refine Ev.step (f := fun k => windhoverlaw09_GeoOut.j2 k l by_ r' (i : Int) (Int.tmod ((pt l i).f1 + (nx l (i + 1)).f1) 2 == 0) (nx l (i + 1)).f0 (nx l (i + 1)).f1) (fun k => ?_) (j2 _ fun hb => ?_)
        · rw [windhoverlaw09_GeoOut.j1, if_neg (by decide), if_neg cn, e1, tmodn, if_pos cm0, if_pos cm1, if_pos i0, if_pos i1]
          change (if Int.tmod (wrap64 ((pt l i).f0 + (nx l (i + 1)).f0)) 2 = 0 then windhoverlaw09_GeoOut.j2 k l by_ r' (i : Int) (Int.tmod (wrap64 ((pt l i).f1 + (nx l (i + 1)).f1)) 2 == 0) (nx l (i + 1)).f0 (nx l (i + 1)).f1 else _) = _
          rw [s0, s1, if_pos c]
        · obtain ⟨m0, g0⟩ := ev _ c
          obtain ⟨m1, g1⟩ := ev _ (beq_iff_eq.1 hb)
          exact ⟨m0, m1, g0, g1⟩
      · refine Ev.step (f := fun k => windhoverlaw09_GeoOut.j2 k l by_ r' (i : Int) false (nx l (i + 1)).f0 (nx l (i + 1)).f1) (fun k => ?_) (j2 _ fun hb => by cases hb)
        rw [windhoverlaw09_GeoOut.j1, if_neg (by decide), if_neg cn, e1, tmodn, if_pos cm0, if_pos cm1, if_pos i0, if_pos i1]
        change (if Int.tmod (wrap64 ((pt l i).f0 + (nx l (i + 1)).f0)) 2 = 0 then windhoverlaw09_GeoOut.j2 k l by_ r' (i : Int) (Int.tmod (wrap64 ((pt l i).f1 + (nx l (i + 1)).f1)) 2 == 0) (nx l (i + 1)).f0 (nx l (i + 1)).f1 else _) = _
        rw [s0, if_neg c]
        rfl
    have hs := side_ev (p := (pt l i).f0) (q := (pt l i).f1) HL.out ((outP_eq _ _).2 hp)
    rw [sideV_on hi (on_corner hp hq)] at hs
    refine Ev.step (f := fun k => (geo_Side.f k l (pt l i).f0 (pt l i).f1).bind fun bt => if bt.1 = 0 then windhoverlaw09_GeoOut.j1 k l by_ r' (i : Int) (bt.2 != 0) else windhoverlaw09_GeoOut.j1 k l by_ r' (i : Int) true) (fun k => ?_) (Ev.bind hs j1)
    rw [windhoverlaw09_GeoOut.l0, if_pos i1, if_pos i0, lent_some l hll, Option.bind_some]
    change (geo_Side.f k l (pt l i).f0 (pt l i).f1).bind (fun bt => if bt.1 = 0 then windhoverlaw09_GeoOut.j1 k l by_ (mx r (pt l i).f0) (i : Int) (bt.2 != 0) else windhoverlaw09_GeoOut.j1 k l by_ (mx r (pt l i).f0) (i : Int) true) = _
    rw [ER.out]
end
theorem GeoOut (l0 : List S23) (a1 : Int) (w0 : l0.length * 16 ≤ 140737488351232 ∧ ∀ a ∈ l0, good23 a) (w1 : (Lit.int .i64 a1).wf = true) : ∃ k, windhoverlaw09_GeoOut.f k l0 a1 = some true := by
  refine Ev.rounds (?_ : Ev (fun k => windhoverlaw09_GeoOut.f k l0 a1) true)
  unfold windhoverlaw09_GeoOut.f
  rw [lent_some l0 w0.1]
  simp only [Option.bind_some]
  refine Ev.bind (simple_ev l0) ?_
  by_cases c : simpleV l0 = 0
  · have h := simpleV_zero c
    have hw : -9223372036854775808 ≤ a1 ∧ a1 ≤ 9223372036854775807 := by
      have e : IntKind.i64.min = -9223372036854775808 ∧ IntKind.i64.max = 9223372036854775807 := by decide
      simp [Lit.wf] at w1
      omega
    refine Ev.congr (f := fun k => windhoverlaw09_GeoOut.l0 k l0 a1 (pt l0 0).f0 ((0 : Nat) : Int)) (fun k => ?_) (out_loop c hw l0.length 0 (pt l0 0).f0 (by omega) (pt_in h.2.2.1 (by omega)).1 (fun j hj => by omega))
    rw [if_pos c, if_pos (by omega)]
    rfl
  · simp only [if_neg c]
    exact Ev.bind awake_ev (Ev.now _)
end Go.Proofs.Ytannklfnfacpeaa.X
