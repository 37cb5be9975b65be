/- A polygon that Simple takes: its winding, and what the document's Inside answers. -/
import Derived.Test.YtannklfnfacpeaaXMJ6
import Derived.Test.YtannklfnfacpeaaXMPoly
import Derived.Test.YtannklfnfacpeaaXMWind
import Derived.Test.YtannklfnfacpeaaXx11
namespace Go.Proofs.Ytannklfnfacpeaa.X
open Go.RowKit Go.Proofs.YtannklfnfacpeaaW.PrintWords Go.Proofs.YtannklfnfacpeaaW.PrintLast Go.Proofs.YtannklfnfacpeaaW.PrintMore
set_option linter.unusedVariables false
set_option linter.unusedSimpArgs false
theorem nx_mod (l : List S23) (i d : Nat) : nx l (i + d) = nx l (i % l.length + d) := by rw [nx, nx, Nat.mod_add_mod]
theorem nx_at (l : List S23) (i : Nat) : nx l i = pt l (i % l.length) := rfl
theorem simp_of {l : List S23} (hl : simpleV l = 0) : Simp l.length (fun i => (nx l i).f0) (fun i => (nx l i).f1) := by
  have h := simpleV_zero hl
  have h0 : 0 < l.length := by omega
  have inb : ∀ i, InB (nx l i).f0 ∧ InB (nx l i).f1 := fun i => pt_in h.2.2.1 (Nat.mod_lt i h0)
  have md : ∀ i, i % l.length < l.length := fun i => Nat.mod_lt i h0
  have ne : ∀ i, ¬ ((nx l i).f0 = (nx l (i + 1)).f0 ∧ (nx l i).f1 = (nx l (i + 1)).f1) := by
    intro i ht
    rw [nx_mod l i 1] at ht
    refine List.any_eq_false.1 h.2.2.2.1 (pt l (i % l.length), nx l (i % l.length + 1)) (List.mem_map.2 ⟨i % l.length, List.mem_range.2 (md i), rfl⟩) ?_
    rw [nx_at l i] at ht
    simp [twin, ht.1, ht.2]
  have nt : ¬ tangledV l = true := by rw [h.2.2.2.2]; exact Bool.false_ne_true
  rw [tangledV_iff] at nt
  have spk : ∀ i, ¬ OnI (nx l i).f0 (nx l i).f1 (nx l (i + 1)).f0 (nx l (i + 1)).f1 (nx l (i + 2)).f0 (nx l (i + 2)).f1 ∧ ¬ OnI (nx l (i + 1)).f0 (nx l (i + 1)).f1 (nx l (i + 2)).f0 (nx l (i + 2)).f1 (nx l i).f0 (nx l i).f1 := by
    intro i
    have e : spikeAt l (i % l.length) = true ↔ _ := spikeV_iff (p := nx l i) (c := nx l (i % l.length + 1)) (q := nx l (i % l.length + 2)) (inb _) (inb _) (inb _) (by rw [← nx_mod]; exact ne i) (by rw [← nx_mod, ← nx_mod]; exact ne (i + 1))
    rw [← nx_mod, ← nx_mod] at e
    unfold onS at e
    rw [onV_iff (inb _) (inb _) (inb _), onV_iff (inb _) (inb _) (inb _)] at e
    refine ⟨fun g => nt (.inl ⟨_, md i, e.2 (.inl g)⟩), fun g => nt (.inl ⟨_, md i, e.2 (.inr g)⟩)⟩
  have pair : ∀ a b, a + 2 ≤ b → b < l.length → ¬ (a = 0 ∧ b = l.length - 1) → ¬ GeoI (nx l a).f0 (nx l a).f1 (nx l (a + 1)).f0 (nx l (a + 1)).f1 (nx l b).f0 (nx l b).f1 (nx l (b + 1)).f0 (nx l (b + 1)).f1 := by
    intro a b h1 h2 h3 g
    refine nt (.inr ⟨a, b, h1, h2, h3, ?_⟩)
    unfold pairAt
    rw [← nx_lt (l := l) (i := a) (by omega), ← nx_lt (l := l) (i := a + 1) (by omega), ← nx_lt (l := l) (i := b) h2]
    exact (meetV_iff (inb _) (inb _) (inb _) (inb _)).2 g
  refine ⟨h.1, fun i => ?_, fun i => ?_, fun i d h1 h2 => ?_, ne, fun i => (spk i).1, fun i => (spk i).2, fun i => ?_⟩
  · show (nx l (i + l.length)).f0 = (nx l i).f0
    rw [nx, nx, Nat.add_mod_right]
  · show (nx l (i + l.length)).f1 = (nx l i).f1
    rw [nx, nx, Nat.add_mod_right]
  · show ¬ GeoI (nx l i).f0 (nx l i).f1 (nx l (i + 1)).f0 (nx l (i + 1)).f1 (nx l (i + d)).f0 (nx l (i + d)).f1 (nx l (i + d + 1)).f0 (nx l (i + d + 1)).f1
    have hi := md i
    have e0 : nx l i = nx l (i % l.length) := by rw [nx, nx, Nat.mod_mod]
    rw [nx_mod l i 1, nx_mod l i d, Nat.add_assoc i d 1, nx_mod l i (d + 1), e0]
    generalize i % l.length = a at *
    by_cases c : a + d < l.length
    · exact pair a (a + d) (by omega) c (by omega)
    · have e1 : nx l (a + d) = nx l (a + d - l.length) := by rw [nx, nx, ← Nat.mod_eq_sub_mod (by omega)]
      have e2 : nx l (a + (d + 1)) = nx l (a + d - l.length + 1) := by
        rw [nx, nx, show a + d - l.length + 1 = a + (d + 1) - l.length by omega, ← Nat.mod_eq_sub_mod (by omega)]
      rw [e1, e2]
      exact fun g => pair (a + d - l.length) a (by omega) hi (by omega) (geo_turn2 g)
  · have := inb i
    unfold InB at this
    unfold InC
    show (_ ≤ (nx l i).f0 ∧ (nx l i).f0 ≤ _) ∧ (_ ≤ (nx l i).f1 ∧ (nx l i).f1 ≤ _)
    omega
theorem wsum_W0 {l : List S23} (p q : Int) : ∀ k, k ≤ l.length → wsum l p q k = W0 k (fun i => (nx l i).f0) (fun i => (nx l i).f1) p q
  | 0, _ => rfl
  | k + 1, h => by
    have ih := wsum_W0 (l := l) p q k (by omega)
    unfold W0 at ih ⊢
    rw [wsum, sm, ih, ← nx_lt (l := l) (i := k) (by omega)]
/-- Off a polygon that Simple takes: the winding is 0, or one and the same of 1, -1. -/
theorem wsum_one {l : List S23} (hl : simpleV l = 0) : ∃ L, ∀ p q, InB p ∧ InB q → (∀ k, k < l.length → ¬ OnI (pt l k).f0 (pt l k).f1 (nx l (k + 1)).f0 (nx l (k + 1)).f1 p q) →
    wsum l p q l.length = 0 ∨ ((L = 0 ∨ L = 1) ∧ wsum l p q l.length = 2 * L - 1) := by
  obtain ⟨L, h⟩ := wind_one (simp_of hl)
  refine ⟨L, fun p q hp hn => ?_⟩
  rw [wsum_W0 p q _ (Nat.le_refl _)]
  refine h p q ?_ fun k hk => ?_
  · unfold InB at hp; unfold InC; omega
  · have := hn k hk
    rw [← nx_lt hk] at this
    exact this
def parV (l : List S23) (p q : Int) (k : Nat) : Int := if wsum l p q k % 2 = 0 then -1 else 1
def onAt (l : List S23) (p q : Int) (i : Nat) : Bool := onS (pt l i) (nx l (i + 1)) ⟨p, q⟩
/-- One side of Inside's loop. -/
theorem par_step {l : List S23} {p q : Int} (k : Nat) :
    parV l p q (k + 1) = if (decide ((pt l k).f1 ≤ q) == decide ((nx l (k + 1)).f1 ≤ q)) = true then parV l p q k else
      if (pt l k).f1 > (nx l (k + 1)).f1 then (if crossI (nx l (k + 1)).f0 (nx l (k + 1)).f1 (pt l k).f0 (pt l k).f1 p q > 0 then wrap64 (-(parV l p q k)) else parV l p q k)
      else (if crossI (pt l k).f0 (pt l k).f1 (nx l (k + 1)).f0 (nx l (k + 1)).f1 p q > 0 then wrap64 (-(parV l p q k)) else parV l p q k) := by
  have e : wrap64 (-(parV l p q k)) = if wsum l p q k % 2 = 0 then 1 else -1 := by unfold parV wrap64; split <;> omega
  rw [e]
  unfold parV
  rw [wsum, cross_back]
  unfold wst
  generalize crossI (pt l k).f0 (pt l k).f1 (nx l (k + 1)).f0 (nx l (k + 1)).f1 p q = A
  generalize (pt l k).f1 = a
  generalize (nx l (k + 1)).f1 = b
  generalize wsum l p q k = S
  have hb : (decide (a ≤ q) == decide (b ≤ q)) = true ↔ (a ≤ q ↔ b ≤ q) := by simp
  by_cases c1 : a ≤ q
  · by_cases c2 : b ≤ q
    · rw [if_pos (c := (decide (a ≤ q) == decide (b ≤ q)) = true) (hb.2 (by omega)), if_neg (c := a ≤ q ∧ b > q ∧ A > 0) (by omega), if_neg (c := b ≤ q ∧ a > q ∧ A < 0) (by omega), Int.add_zero]
    · rw [if_neg (c := (decide (a ≤ q) == decide (b ≤ q)) = true) (fun h => by have := hb.1 h; omega), if_neg (c := b ≤ q ∧ a > q ∧ A < 0) (by omega), if_neg (c := a > b) (by omega)]
      by_cases c3 : A > 0
      · rw [if_pos (c := a ≤ q ∧ b > q ∧ A > 0) ⟨c1, by omega, c3⟩, if_pos (c := A > 0) c3]
        repeat' split
        all_goals omega
      · rw [if_neg (c := a ≤ q ∧ b > q ∧ A > 0) (fun g => c3 g.2.2), if_neg (c := A > 0) c3, Int.add_zero]
  · by_cases c2 : b ≤ q
    · rw [if_neg (c := (decide (a ≤ q) == decide (b ≤ q)) = true) (fun h => by have := hb.1 h; omega), if_neg (c := a ≤ q ∧ b > q ∧ A > 0) (by omega), if_pos (c := a > b) (by omega)]
      by_cases c3 : A < 0
      · rw [if_pos (c := b ≤ q ∧ a > q ∧ A < 0) ⟨c2, by omega, c3⟩, if_pos (c := -A > 0) (by omega)]
        repeat' split
        all_goals omega
      · rw [if_neg (c := b ≤ q ∧ a > q ∧ A < 0) (fun g => c3 g.2.2), if_neg (c := -A > 0) (by omega), Int.add_zero]
    · rw [if_pos (c := (decide (a ≤ q) == decide (b ≤ q)) = true) (hb.2 (by omega)), if_neg (c := a ≤ q ∧ b > q ∧ A > 0) (by omega), if_neg (c := b ≤ q ∧ a > q ∧ A < 0) (by omega), Int.add_zero]
theorem inside_ref {l : List S23} {p q : Int} (h0 : 0 < l.length) (hn : l.length ≤ 64) (hin : l.any outP = false) (hp : InB p ∧ InB q) :
    Ev (fun k => windhoverref09_Inside.f k l p q) (if anyF (onAt l p q) l.length l.length = true then 0 else parV l p q l.length) := by
  have key : ∀ m i, i + m = l.length → Ev (fun k => windhoverref09_Inside.l0 k l (parV l p q i) (i : Int) p q) (if anyF (onAt l p q) l.length m = true then 0 else parV l p q l.length) := by
    intro m
    induction m with
    | zero =>
      intro i hi
      obtain rfl : i = l.length := by omega
      exact Ev.step (f := fun _ => some (parV l p q l.length)) (fun k => by rw [windhoverref09_Inside.l0, if_neg (by omega)]) (Ev.now _)
    | succ m ih =>
      intro i hi
      have e1 : wrap64 ((i : Int) + 1) = ((i + 1 : Nat) : Int) := w64n (i + 1) (by omega)
      have next := ih (i + 1) (by omega)
      obtain ⟨j, hj, ej⟩ := nx_pt (l := l) (i := i + 1) h0
      have ha := pt_in hin (i := i) (by omega)
      have hb := pt_in hin hj
      rw [← ej] at hb
      have cr : crossW (rd_T23 l (i : Int)).f0 (rd_T23 l (i : Int)).f1 (nx l (i + 1)).f0 (nx l (i + 1)).f1 p q = crossI (pt l i).f0 (pt l i).f1 (nx l (i + 1)).f0 (nx l (i + 1)).f1 p q := crossW_in ha.1 ha.2 hb.1 hb.2 hp.1 hp.2
      have cr2 : crossW (nx l (i + 1)).f0 (nx l (i + 1)).f1 (rd_T23 l (i : Int)).f0 (rd_T23 l (i : Int)).f1 p q = crossI (nx l (i + 1)).f0 (nx l (i + 1)).f1 (pt l i).f0 (pt l i).f1 p q := crossW_in hb.1 hb.2 ha.1 ha.2 hp.1 hp.2
      rw [par_step] at next
      have o := on_ref (pt l i).f0 (pt l i).f1 (nx l (i + 1)).f0 (nx l (i + 1)).f1 p q
      rw [anyF, show l.length - (m + 1) = i by omega]
      refine Ev.step (f := fun k => (windhoverref09_On.f k (pt l i).f0 (pt l i).f1 (nx l (i + 1)).f0 (nx l (i + 1)).f1 p q).bind fun t => if t = true then some 0 else
        if (decide ((pt l i).f1 ≤ q) == decide ((nx l (i + 1)).f1 ≤ q)) = true then windhoverref09_Inside.l0 k l (parV l p q i) ((i + 1 : Nat) : Int) p q else
          if (pt l i).f1 > (nx l (i + 1)).f1 then windhoverref09_Inside.j1 k l (parV l p q i) (i : Int) p q (nx l (i + 1)).f0 (nx l (i + 1)).f1 (pt l i).f0 (pt l i).f1
          else windhoverref09_Inside.j1 k l (parV l p q i) (i : Int) p q (pt l i).f0 (pt l i).f1 (nx l (i + 1)).f0 (nx l (i + 1)).f1) (fun k => ?_) (Ev.bind o ?_)
      · rw [windhoverref09_Inside.l0, if_pos (by omega), if_pos (by omega), next_some (by omega) hn, Option.bind_some, e1]
        rfl
      · change Ev _ (if (onAt l p q i || anyF (onAt l p q) l.length m) = true then 0 else parV l p q l.length)
        change Ev (fun k => if onAt l p q i = true then some 0 else _) _
        cases onAt l p q i with
        | true => exact Ev.now _
        | false =>
          change Ev (fun k => if (decide ((pt l i).f1 ≤ q) == decide ((nx l (i + 1)).f1 ≤ q)) = true then _ else _) _
          by_cases c1 : (decide ((pt l i).f1 ≤ q) == decide ((nx l (i + 1)).f1 ≤ q)) = true
          · simp only [if_pos c1] at next ⊢
            exact next
          · simp only [if_neg c1] at next ⊢
            by_cases c2 : (pt l i).f1 > (nx l (i + 1)).f1
            · simp only [if_pos c2] at next ⊢
              refine Ev.step (fun k => ?_) next
              rw [windhoverref09_Inside.j1, cross_ref, Option.bind_some, show crossW (nx l (i + 1)).f0 (nx l (i + 1)).f1 (pt l i).f0 (pt l i).f1 p q = _ from cr2, e1]
              split <;> rfl
            · simp only [if_neg c2] at next ⊢
              refine Ev.step (fun k => ?_) next
              rw [windhoverref09_Inside.j1, cross_ref, Option.bind_some, show crossW (pt l i).f0 (pt l i).f1 (nx l (i + 1)).f0 (nx l (i + 1)).f1 p q = _ from cr, e1]
              split <;> rfl
  exact key l.length 0 (by omega)
theorem anyF_on {l : List S23} {p q : Int} (h0 : 0 < l.length) (hin : l.any outP = false) (hp : InB p ∧ InB q) : anyF (onAt l p q) l.length l.length = (upt l l.length).any (onSide p q) := by
  have e : ∀ i, i < l.length → (onAt l p q i = true ↔ onSide p q (pt l i, nx l (i + 1)) = true) := by
    intro i hi
    obtain ⟨j, hj, ej⟩ := nx_pt (l := l) (i := i + 1) h0
    have ha := pt_in hin hi
    have hb := pt_in hin hj
    rw [← ej] at hb
    rw [onSide_iff ha hb hp]
    exact onV_iff ha hb hp
  rw [Bool.eq_iff_iff, anyF_iff _ (Nat.le_refl _), List.any_eq_true]
  constructor
  · rintro ⟨i, _, h2, h3⟩
    exact ⟨_, mem_upt h2, (e i h2).1 h3⟩
  · rintro ⟨x, hx, h3⟩
    obtain ⟨i, hi, rfl⟩ := upt_mem hx
    exact ⟨i, by omega, hi, (e i hi).2 h3⟩
/-- Of a polygon that Simple takes: the document's Inside is geo's Side. -/
theorem inside_same {l : List S23} {p q : Int} (hl : simpleV l = 0) (hp : InB p ∧ InB q) : Ev (fun k => windhoverref09_Inside.f k l p q) (sideV l p q) := by
  have h := simpleV_zero hl
  have h0 : 0 < l.length := by omega
  have r := inside_ref h0 h.2.1 h.2.2.1 hp
  rw [anyF_on h0 h.2.2.1 hp] at r
  have e : sideV l p q = if (upt l l.length).any (onSide p q) = true then 0 else parV l p q l.length := by
    unfold sideV
    by_cases c : (upt l l.length).any (onSide p q) = true
    · rw [if_pos c, if_pos c]
    · rw [if_neg c, if_neg c]
      obtain ⟨L, hw⟩ := wsum_one hl
      have w := hw p q hp (fun k hk g => by
        obtain ⟨j, hj, ej⟩ := nx_pt (l := l) (i := k + 1) h0
        have ha := pt_in h.2.2.1 hk
        have hb := pt_in h.2.2.1 hj
        rw [← ej] at hb
        exact c (List.any_eq_true.2 ⟨_, mem_upt hk, (onSide_iff ha hb hp).2 g⟩))
      rw [(winds_sum h0 h.2.1 h.2.2.1 hp l.length (Nat.le_refl _)).1]
      unfold parV
      generalize wsum l p q l.length = S at *
      repeat' split
      all_goals omega
  rw [e]
  exact r
end Go.Proofs.Ytannklfnfacpeaa.X
