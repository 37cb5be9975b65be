/- Medians and middles, in numbers. -/
import Derived.Test.YtfjlaplhglfcaaaHoldsB
import Derived.IntWalk
namespace Go.Proofs.Ytfjlaplhglfcaaa.Ex
open Go
set_option linter.unusedVariables false
def F.i64 (x : Int) : Prop := -9223372036854775808 ≤ x ∧ x ≤ 9223372036854775807
theorem u64_eq (n : Int) : IntKind.u64.wrap n = n % 18446744073709551616 := by
  simp only [IntKind.wrap, IntKind.bits, IntKind.signed]; simp
theorem gap_eq {a b : Int} (ha : F.i64 a) (hb : F.i64 b) (h : a ≤ b) : F.gap a b = b - a := by
  unfold F.gap F.i64 at *
  simp only [u64_eq]
  omega
theorem midw_eq {a b : Int} (ha : F.i64 a) (hb : F.i64 b) (h : a ≤ b) : F.midw a b = a + (b - a) / 2 := by
  unfold F.midw
  rw [gap_eq ha hb h]
  unfold F.i64 at *
  have e1 : (b - a).tdiv 2 = (b - a) / 2 := Int.tdiv_eq_ediv_of_nonneg (by omega)
  rw [e1, u64_eq]
  have e2 : (b - a) / 2 % 18446744073709551616 = (b - a) / 2 := by omega
  rw [e2, Go.IntWalk.i64_in ((b - a) / 2) (by omega), Go.IntWalk.i64_in (a + (b - a) / 2) (by omega)]
theorem midw_in {x y lo hi : Int} (hx : F.i64 x) (hy : F.i64 y) (h1 : lo ≤ x ∧ x ≤ hi) (h2 : lo ≤ y ∧ y ≤ hi) : lo ≤ F.midw (lo2 x y) (hi2 x y) ∧ F.midw (lo2 x y) (hi2 x y) ≤ hi := by
  unfold lo2 hi2
  split
  · rw [midw_eq hx hy (by assumption)]; omega
  · rw [midw_eq hy hx (by omega)]; omega
theorem mid3_in {x y z lo hi : Int} (h : ((lo ≤ x ∧ x ≤ hi) ∧ lo ≤ y ∧ y ≤ hi) ∨ ((lo ≤ x ∧ x ≤ hi) ∧ lo ≤ z ∧ z ≤ hi) ∨ ((lo ≤ y ∧ y ≤ hi) ∧ lo ≤ z ∧ z ≤ hi)) : lo ≤ mid3 x y z ∧ mid3 x y z ≤ hi := by
  unfold mid3
  split <;> split <;> (try split) <;> omega
theorem inS_iff {n lo hi : Int} : F.inS n lo hi = true ↔ lo ≤ n ∧ n ≤ hi := by
  unfold F.inS
  split <;> simp <;> omega
theorem na_true {o : Bool} {a stale : Int} (h : o = true) (hst : 0 ≤ stale) : F.na o a ≤ stale := by
  subst h; exact hst
theorem nv_true {o : Bool} {x v : Int} (h : o = true) : F.nv o x v = x := by subst h; rfl
theorem holds_law {stale lo hi : Int} {V : F.V} {u : F.U} (hst : 0 ≤ stale ∧ stale ≤ 65534) (h0 : F.i64 u.x0) (h1 : F.i64 u.x1) (h2 : F.i64 u.x2) (hc : ¬ F.cnt u lo hi < 2) :
    F.ok stale V u = true ∧ F.inS (F.x stale V u) lo hi = true := by
  have two : (u.o0 = true ∧ u.o1 = true ∧ F.inS u.x0 lo hi = true ∧ F.inS u.x1 lo hi = true) ∨ (u.o0 = true ∧ u.o2 = true ∧ F.inS u.x0 lo hi = true ∧ F.inS u.x2 lo hi = true) ∨
      (u.o1 = true ∧ u.o2 = true ∧ F.inS u.x1 lo hi = true ∧ F.inS u.x2 lo hi = true) := by
    revert hc
    unfold F.cnt
    generalize u.o0 = o0
    generalize u.o1 = o1
    generalize u.o2 = o2
    generalize F.inS u.x0 lo hi = b0
    generalize F.inS u.x1 lo hi = b1
    generalize F.inS u.x2 lo hi = b2
    cases o0 <;> cases o1 <;> cases o2 <;> cases b0 <;> cases b1 <;> cases b2 <;> decide
  unfold F.ok F.x F.valid
  rcases two with ⟨p, q, r, s⟩ | ⟨p, q, r, s⟩ | ⟨p, q, r, s⟩
  · rw [if_pos (na_true p hst.1), if_pos (na_true q hst.1), nv_true p, nv_true q]
    rw [inS_iff] at r s ⊢
    by_cases k : F.na u.o2 V.a2 ≤ stale
    · rw [if_pos k]; exact ⟨rfl, mid3_in (.inl ⟨r, s⟩)⟩
    · rw [if_neg k]; exact ⟨rfl, midw_in h0 h1 r s⟩
  · rw [if_pos (na_true p hst.1), if_pos (na_true q hst.1), nv_true p, nv_true q]
    rw [inS_iff] at r s ⊢
    by_cases k : F.na u.o1 V.a1 ≤ stale
    · rw [if_pos k]; exact ⟨rfl, mid3_in (.inr (.inl ⟨r, s⟩))⟩
    · rw [if_neg k]; exact ⟨rfl, midw_in h0 h2 r s⟩
  · rw [if_pos (na_true p hst.1), if_pos (na_true q hst.1), nv_true p, nv_true q]
    rw [inS_iff] at r s ⊢
    by_cases k : F.na u.o0 V.a0 ≤ stale
    · rw [if_pos k]; exact ⟨rfl, mid3_in (.inr (.inr ⟨r, s⟩))⟩
    · rw [if_neg k]; exact ⟨rfl, midw_in h1 h2 r s⟩
end Go.Proofs.Ytfjlaplhglfcaaa.Ex
