/- A way that meets no side: a polygon winds about both its ends by the same. -/
import Derived.Test.YtannklfnfacpeaaXMEdge
import Derived.Test.YtannklfnfacpeaaXMSide
namespace Go.Proofs.Ytannklfnfacpeaa.X
open Go.RowKit Go.Proofs.YtannklfnfacpeaaW.PrintWords Go.Proofs.YtannklfnfacpeaaW.PrintLast Go.Proofs.YtannklfnfacpeaaW.PrintMore
set_option linter.unusedVariables false
set_option linter.unusedSimpArgs false
def wsum (l : List S23) (p q : Int) : Nat → Int
  | 0 => 0
  | k + 1 => wsum l p q k + wst p q (pt l k).f0 (pt l k).f1 (nx l (k + 1)).f0 (nx l (k + 1)).f1
theorem wst_small (p0 p1 a0 a1 b0 b1 : Int) : -1 ≤ wst p0 p1 a0 a1 b0 b1 ∧ wst p0 p1 a0 a1 b0 b1 ≤ 1 := by
  unfold wst
  repeat' split
  all_goals omega
theorem wind_step {a b : S23} {p q r : Int} (ha : InB a.f0 ∧ InB a.f1) (hb : InB b.f0 ∧ InB b.f1) (hp : InB p ∧ InB q) (hr : -1000 ≤ r ∧ r ≤ 1000) : wind p q r (a, b) = r + wst p q a.f0 a.f1 b.f0 b.f1 := by
  unfold wind turnP wst
  simp only [turnV_eq, crossW_in ha.1 ha.2 hb.1 hb.2 hp.1 hp.2]
  have s := sgnI_cases (crossI a.f0 a.f1 b.f0 b.f1 p q)
  generalize crossI a.f0 a.f1 b.f0 b.f1 p q = A at *
  rw [w64 (n := r + 1) (by omega) (by omega), w64 (n := r - 1) (by omega) (by omega)]
  repeat' split
  all_goals omega
theorem winds_sum {l : List S23} {p q : Int} (h0 : 0 < l.length) (hn : l.length ≤ 64) (hin : l.any outP = false) (hp : InB p ∧ InB q) :
    ∀ k, k ≤ l.length → winds p q (upt l k) = wsum l p q k ∧ -(k : Int) ≤ wsum l p q k ∧ wsum l p q k ≤ (k : Int) := by
  intro k
  induction k with
  | zero => exact fun _ => ⟨rfl, by rw [wsum]; omega, by rw [wsum]; omega⟩
  | succ k ih =>
    intro hk
    obtain ⟨e, l1, l2⟩ := ih (by omega)
    obtain ⟨j, hj, ej⟩ := nx_pt (l := l) (i := k + 1) h0
    have ha := pt_in hin (i := k) (by omega)
    have hb := pt_in hin hj
    rw [← ej] at hb
    have sm := wst_small p q (pt l k).f0 (pt l k).f1 (nx l (k + 1)).f0 (nx l (k + 1)).f1
    rw [upt_succ, winds_snoc, e]
    have st := wind_step (r := wsum l p q k) ha hb hp (by omega)
    refine ⟨st, ?_, ?_⟩
    · rw [wsum]; omega
    · rw [wsum]; omega
theorem nx_last {l : List S23} (h : 0 < l.length) : nx l l.length = pt l 0 := by rw [nx, Nat.mod_self]; rfl
theorem nx_small {l : List S23} {i : Nat} (h : i < l.length) : nx l i = pt l i := by rw [nx, Nat.mod_eq_of_lt h]; rfl
theorem wsum_same {l : List S23} {p0 p1 q0 q1 : Int} (h0 : 0 < l.length) (hpq : p1 ≤ q1) (hn : ∀ i, i < l.length → ¬ GeoI (pt l i).f0 (pt l i).f1 (nx l (i + 1)).f0 (nx l (i + 1)).f1 p0 p1 q0 q1) :
    wsum l p0 p1 l.length = wsum l q0 q1 l.length := by
  have key : ∀ k, k < l.length → wsum l p0 p1 k - wsum l q0 q1 k = pot p0 p1 q0 q1 (pt l k).f0 (pt l k).f1 - pot p0 p1 q0 q1 (pt l 0).f0 (pt l 0).f1 := by
    intro k
    induction k with
    | zero => intro _; rw [wsum, wsum]; omega
    | succ k ih =>
      intro hk
      have h1 := ih (by omega)
      have h2 := edge_same hpq (hn k (by omega))
      rw [nx_small hk] at h2
      rw [wsum, wsum, nx_small hk]
      omega
  obtain ⟨m, hm⟩ : ∃ m, l.length = m + 1 := ⟨l.length - 1, by omega⟩
  have h1 := key m (by omega)
  have h2 := edge_same hpq (hn m (by omega))
  have e : nx l (m + 1) = pt l 0 := by rw [← hm]; exact nx_last h0
  rw [e] at h2
  rw [show wsum l p0 p1 l.length = wsum l p0 p1 (m + 1) by rw [hm], show wsum l q0 q1 l.length = wsum l q0 q1 (m + 1) by rw [hm], wsum, wsum, e]
  omega
theorem sideV_same {l : List S23} {p0 p1 q0 q1 : Int} (hl : simpleV l = 0) (hp : InB p0 ∧ InB p1) (hq : InB q0 ∧ InB q1)
    (hn : ∀ i, i < l.length → ¬ GeoI (pt l i).f0 (pt l i).f1 (nx l (i + 1)).f0 (nx l (i + 1)).f1 p0 p1 q0 q1) : sideV l p0 p1 = sideV l q0 q1 ∧ sideV l p0 p1 ≠ 0 := by
  have h := simpleV_zero hl
  clear hl
  have h0 : 0 < l.length := by omega
  have ew : wsum l p0 p1 l.length = wsum l q0 q1 l.length := by
    by_cases c : p1 ≤ q1
    · exact wsum_same h0 c hn
    · exact (wsum_same h0 (by omega) fun i hi g => hn i hi (geo_swap g)).symm
  have wp := (winds_sum h0 h.2.1 h.2.2.1 hp l.length (Nat.le_refl _)).1
  have wq := (winds_sum h0 h.2.1 h.2.2.1 hq l.length (Nat.le_refl _)).1
  have off : ∀ r0 r1 : Int, InB r0 ∧ InB r1 → (∀ i, i < l.length → ¬ OnI (pt l i).f0 (pt l i).f1 (nx l (i + 1)).f0 (nx l (i + 1)).f1 r0 r1) → ¬ (upt l l.length).any (onSide r0 r1) = true := by
    intro r0 r1 hr g hx
    obtain ⟨x, hx, ho⟩ := List.any_eq_true.1 hx
    obtain ⟨i, hi, rfl⟩ := upt_mem hx
    obtain ⟨j, hj, ej⟩ := nx_pt (l := l) (i := i + 1) h0
    have hb := pt_in h.2.2.1 hj
    rw [← ej] at hb
    exact g i hi ((onSide_iff (pt_in h.2.2.1 hi) hb hr).1 ho)
  have op := off p0 p1 hp fun i hi g => hn i hi (ref_geo (.inl g))
  have oq := off q0 q1 hq fun i hi g => hn i hi (ref_geo (.inr (.inl g)))
  rw [sideV, sideV, if_neg op, if_neg oq, wp, wq, ew]
  refine ⟨rfl, ?_⟩
  split <;> decide
end Go.Proofs.Ytannklfnfacpeaa.X
