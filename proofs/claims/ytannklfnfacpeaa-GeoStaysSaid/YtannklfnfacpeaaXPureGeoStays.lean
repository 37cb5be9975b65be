/- The plain law behind GeoStays. -/
import Derived.Test.YtannklfnfacpeaaXx11
import Derived.Test.YtannklfnfacpeaaXMLent
import Derived.Test.YtannklfnfacpeaaXMWind
namespace Go.Proofs.Ytannklfnfacpeaa.X
open Go.RowKit Go.Proofs.YtannklfnfacpeaaW.PrintWords Go.Proofs.YtannklfnfacpeaaW.PrintLast
set_option linter.unusedVariables false
def good23 (s : S23) : Prop := ((Lit.int .i64 s.f0).wf = true) ∧ ((Lit.int .i64 s.f1).wf = true)
def sideR (l : List S23) (p q : Int) : Int × Int := if simpleV l = 0 then (if outP ⟨p, q⟩ = true then (0, 5) else (sideV l p q, 0)) else (0, simpleV l)
theorem side_any (l : List S23) (p q : Int) : Ev (fun k => geo_Side.f k l p q) (sideR l p q) := by
  unfold geo_Side.f sideR
  refine Ev.bind (simple_ev l) ?_
  by_cases c : simpleV l = 0
  · simp only [if_pos c]
    refine Ev.congr (f := fun _ => some (if outP ⟨p, q⟩ = true then (0, 5) else (sideV l p q, 0))) (fun k => ?_) (Ev.now _)
    rw [fits_geo _ (by simp), Option.bind_some]
    simp only [List.any_cons, List.any_nil, Bool.or_false]
    cases outP ⟨p, q⟩ <;> rfl
  · simp only [if_neg c]
    exact Ev.now _
theorem sideR_zero (l : List S23) (p q : Int) : (sideR l p q).2 = 0 ∨ (sideR l p q).1 = 0 := by
  unfold sideR
  repeat' split
  · exact .inr rfl
  · exact .inl rfl
  · exact .inr rfl
theorem sideR_ok {l : List S23} {p q : Int} (h : (sideR l p q).2 = 0) : simpleV l = 0 ∧ outP ⟨p, q⟩ = false ∧ (sideR l p q).1 = sideV l p q := by
  unfold sideR at *
  by_cases c : simpleV l = 0
  · rw [if_pos c] at *
    cases ho : outP ⟨p, q⟩ with
    | true => rw [ho] at h; simp at h
    | false => exact ⟨c, rfl, rfl⟩
  · rw [if_neg c] at h
    exact absurd h c
theorem stays_j0 (l : List S23) (s e t f : Int) (p0 p1 q0 q1 : Int) (h1 : e = 0 ∨ s = 0) (h2 : f = 0 ∨ t = 0) : Ev (fun k => windhoverlaw09_GeoStays.j0 k l s e t f true p0 p1 q0 q1) true := by
  refine Ev.step (f := fun k => (windhoverlaw09_awake.f k).bind fun t317 => (if t317 = true then (if e = 0 then (if f = 0 then (some true) else (some (t == 0))) else (if s = 0 then (if f = 0 then (some true) else (some (t == 0))) else (some false))) else (some false))) (fun k => rfl) (Ev.bind awake_ev (Ev.congr (f := fun _ => some true) (fun k => ?_) (Ev.now _)))
  by_cases a : e = 0 <;> by_cases b : f = 0 <;> by_cases c : s = 0 <;> by_cases d : t = 0 <;> simp_all
theorem stays_loop {l : List S23} {s t p0 p1 q0 q1 : Int} (h0 : 0 < l.length) (hn : l.length ≤ 64) (ho : ∀ i, i < l.length → out4 (pt l i).f0 (pt l i).f1 (nx l (i + 1)).f0 (nx l (i + 1)).f1 p0 p1 q0 q1 = false)
    (hend : (∀ i, i < l.length → meetV (pt l i).f0 (pt l i).f1 (nx l (i + 1)).f0 (nx l (i + 1)).f1 p0 p1 q0 q1 = false) → s = t ∧ s ≠ 0) :
    ∀ m i, i + m = l.length → (∀ j, j < i → meetV (pt l j).f0 (pt l j).f1 (nx l (j + 1)).f0 (nx l (j + 1)).f1 p0 p1 q0 q1 = false) → Ev (fun k => windhoverlaw09_GeoStays.l0 k l s t (i : Int) p0 p1 q0 q1) true := by
  intro m
  induction m with
  | zero =>
    intro i hi hj
    obtain rfl : i = l.length := by omega
    obtain ⟨rfl, hs⟩ := hend hj
    refine Ev.step (f := fun k => (windhoverlaw09_awake.f k).bind fun t323 => (if t323 = true then (if s = s then (some (s != 0)) else (some false)) else (some false))) (fun k => ?_) (Ev.bind awake_ev (Ev.congr (f := fun _ => some true) (fun k => ?_) (Ev.now _)))
    · rw [windhoverlaw09_GeoStays.l0, if_neg (by omega)]
    · simp [hs]
  | succ m ih =>
    intro i hi hj
    have e1 : wrap64 ((i : Int) + 1) = ((i + 1 : Nat) : Int) := w64n (i + 1) (by omega)
    have hm : (i + 1) % l.length < l.length := Nat.mod_lt _ h0
    have i0 : (0 : Int) ≤ (i : Int) := by omega
    have i1 : (i : Int) < (l.length : Int) := by omega
    have cn : ¬ ((l.length : Int) = 0) := by omega
    have cm0 : (0 : Int) ≤ (((i + 1) % l.length : Nat) : Int) := by omega
    have cm1 : (((i + 1) % l.length : Nat) : Int) < (l.length : Int) := by omega
    have hM := Meet_geo (pt l i).f0 (pt l i).f1 (nx l (i + 1)).f0 (nx l (i + 1)).f1 p0 p1 q0 q1
    rw [ho i (by omega)] at hM
    refine Ev.step (f := fun k => (geo_Meet.f k (pt l i).f0 (pt l i).f1 (nx l (i + 1)).f0 (nx l (i + 1)).f1 p0 p1 q0 q1).bind fun bt => (if bt.2 = 0 then (if bt.1 = true then ((windhoverlaw09_awake.f k).bind fun t322 => (some t322)) else (windhoverlaw09_GeoStays.l0 k l s t ((i + 1 : Nat) : Int) p0 p1 q0 q1)) else (some false))) (fun k => ?_) (Ev.bind hM ?_)
    · rw [windhoverlaw09_GeoStays.l0, if_pos i1, if_pos i0, if_neg cn, e1, tmodn, if_pos cm0, if_pos cm1]
      rfl
    · cases hv : meetV (pt l i).f0 (pt l i).f1 (nx l (i + 1)).f0 (nx l (i + 1)).f1 p0 p1 q0 q1 with
      | true => exact Ev.bind awake_ev (Ev.now _)
      | false =>
        refine ih (i + 1) (by omega) fun j hj' => ?_
        by_cases c : j = i
        · subst c; exact hv
        · exact hj j (by omega)
theorem stays_law (l : List S23) (hlen : l.length * 16 ≤ 140737488351232) (p0 p1 q0 q1 : Int) : Ev (fun k => windhoverlaw09_GeoStays.f k l p0 p1 q0 q1) true := by
  unfold windhoverlaw09_GeoStays.f
  rw [lent_some l hlen]
  simp only [Option.bind_some]
  refine Ev.bind (side_any l p0 p1) (Ev.bind (side_any l q0 q1) ?_)
  by_cases c1 : (sideR l p0 p1).2 = 0
  · simp only [if_pos c1]
    by_cases c2 : (sideR l q0 q1).2 = 0
    · obtain ⟨hl, o1, s1⟩ := sideR_ok c1
      obtain ⟨_, o2, s2⟩ := sideR_ok c2
      have h := simpleV_zero hl
      have hp := (outP_eq _ _).1 o1
      have hq := (outP_eq _ _).1 o2
      have q : ∀ {x y : Int}, InB x ∧ InB y → outP ⟨x, y⟩ = false := fun g => (outP_eq _ _).2 g
      have hN : ∀ i, i < l.length → InB (nx l (i + 1)).f0 ∧ InB (nx l (i + 1)).f1 := by
        intro i hi
        obtain ⟨j, hj, ej⟩ := nx_pt (l := l) (i := i + 1) (by omega)
        rw [ej]
        exact pt_in h.2.2.1 hj
      have hb : ((sideR l q0 q1).2 != 0) = false := by rw [c2]; rfl
      rw [hb]
      have hloop := stays_loop (l := l) (s := (sideR l p0 p1).1) (t := (sideR l q0 q1).1) (p0 := p0) (p1 := p1) (q0 := q0) (q1 := q1) (by omega) h.2.1
        (fun i hi => by simp [out4, q (pt_in h.2.2.1 hi), q (hN i hi), o1, o2])
        (fun hm => by
          rw [s1, s2]
          exact sideV_same hl hp hq fun i hi g => by
            have := (meetV_iff (pt_in h.2.2.1 hi) (hN i hi) hp hq).2 g
            rw [hm i hi] at this
            cases this)
        l.length 0 (by omega) (fun j hj => by omega)
      exact Ev.step (f := fun k => windhoverlaw09_GeoStays.l0 k l (sideR l p0 p1).1 (sideR l q0 q1).1 ((0 : Nat) : Int) p0 p1 q0 q1) (fun k => rfl) hloop
    · have hb : ((sideR l q0 q1).2 != 0) = true := bne_iff_ne.2 c2
      rw [hb]
      exact stays_j0 _ _ _ _ _ _ _ _ _ (sideR_zero _ _ _) (sideR_zero _ _ _)
  · simp only [if_neg c1]
    exact stays_j0 _ _ _ _ _ _ _ _ _ (sideR_zero _ _ _) (sideR_zero _ _ _)
theorem GeoStays (l0 : List S23) (a1_0 : Int) (a1_1 : Int) (a2_0 : Int) (a2_1 : Int) (w0 : l0.length * 16 ≤ 140737488351232 ∧ ∀ a ∈ l0, good23 a) (w1_0 : (Lit.int .i64 a1_0).wf = true) (w1_1 : (Lit.int .i64 a1_1).wf = true) (w2_0 : (Lit.int .i64 a2_0).wf = true) (w2_1 : (Lit.int .i64 a2_1).wf = true) : ∃ k, windhoverlaw09_GeoStays.f k l0 a1_0 a1_1 a2_0 a2_1 = some true := by
  exact Ev.rounds (stays_law l0 w0.1 _ _ _ _)
end Go.Proofs.Ytannklfnfacpeaa.X
