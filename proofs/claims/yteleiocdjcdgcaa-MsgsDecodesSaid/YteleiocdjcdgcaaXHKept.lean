/- The contract of windhoverkeep.Lent and Kept: a list lent with marks behind it, and that it was kept, the marks too. -/
import Derived.Test.YteleiocdjcdgcaaXHLent
import Derived.Test.YteleiocdjcdgcaaXHKeep
import Derived.Test.YteleiocdjcdgcaaXx6
namespace Go.Proofs.Yteleiocdjcdgcaa.X
open Go.RowKit Go.Proofs.YteleiocdjcdgcaaW.PrintWords Go.Proofs.YteleiocdjcdgcaaW.PrintLast Go.Proofs.YteleiocdjcdgcaaW.PrintMore Go.Proofs.Yteleiocdjcdgcaa.HKit
set_option linter.unusedVariables false
set_option linter.unusedSimpArgs false
theorem windhoverkeep_Lent.callsL (A0 : Option Addr) (c0 : Nat) (l0 : List Int) (r : List Int) (w : World) (hr0 : Kd.C (Kd.int .i64) w A0 l0.length l0) (hc0 : l0.length ≤ c0) (h : windhoverkeep_Lent.f l0 = some r) :
    Calls Try.prog 8 #[.slice A0 l0.length c0] w fun e w' => ∃ v0_ : Value, e = .returned (v0_) ∧ KL.R marks (Kd.int .i64) 3 w' w.heap.size (fun _ => True) v0_ r ∧ Below w.heap.size w w' := by
  unfold windhoverkeep_Lent.f at h
  split at h
  · obtain rfl := Option.some.inj h
    refine (lent_room A0 c0 l0 w hr0 hc0 ‹_›).mono ?_
    rintro e w' ⟨v, rfl, hv, hb⟩
    exact ⟨v, rfl, hv, hb⟩
  · cases h
theorem rd_marks (l : List Int) (i : Nat) (h1 : l.length ≤ i) (h2 : i < l.length + 4) : rd (l ++ marks) (i : Int) = -7770777 := by
  unfold rd
  rw [Int.toNat_natCast, List.getD_eq_getElem?_getD, List.getElem?_append_right h1]
  have h3 : i - l.length = 0 ∨ i - l.length = 1 ∨ i - l.length = 2 ∨ i - l.length = 3 := by omega
  rcases h3 with h | h | h | h <;> rw [h] <;> rfl
/-- Kept, of what is as it was. -/
def windhoverkeep_Kept.f (k : Nat) (l0 l1 : List Int) : Option Bool := if l0 = l1 ∧ l0.length * 8 ≤ 140737488351232 then windhoverref00_SameInts.f k l0 l1 else none
theorem windhoverkeep_Kept.mono : ∀ a0 a1 k, LeO (windhoverkeep_Kept.f k a0 a1) (windhoverkeep_Kept.f (k + 1) a0 a1) := by
  intro a0 a1 k
  unfold windhoverkeep_Kept.f
  exact LeO.ite (windhoverref00_SameInts.mono _ _ _) (LeO.refl _)
set_option maxHeartbeats 4000000 in
set_option maxRecDepth 100000 in
theorem kept_true (k : Nat) (A0 : Option Addr) (c0 : Nat) (l0 : List Int) (A1 : Option Addr) (c1 : Nat) (w : World) (base : Nat) (ok : Nat → Prop) (hr0 : KL.R marks (Kd.int .i64) 3 w base ok (.slice A0 l0.length c0) l0)
    (hr1 : Kd.C (Kd.int .i64) w A1 l0.length l0) (hc1 : l0.length ≤ c1) (hl : l0.length * 8 ≤ 140737488351232) (h : windhoverref00_SameInts.f k l0 l0 = some true) :
    Calls Try.prog 12 #[.slice A0 l0.length c0, .slice A1 l0.length c1] w fun e w' => e = .returned (.bool true) ∧ Drawn0 w w' := by
  have HH := Aside0.mk h
  clear h
  have HR1 := Aside0.mk hr1
  have HC1 := Aside0.mk hc1
  have hl' : l0.length ≤ 17592186043904 := by omega
  clear hr1 hc1 hl
  have HRow := Aside0.mk (Kd.R_reads' hr0.row)
  obtain ⟨A, c, he, hc4, hR⟩ := hr0
  injection he with e1 e2 e3
  subst e1
  subst e3
  clear e2
  have hm4 : (marks : List Int).length = 4 := rfl
  rw [hm4] at hc4 hR
  have HX := Aside0.mk (Kd.R_reads' hR)
  obtain ⟨i0, hi0, _, hsz, _⟩ := info_parts info3
  have hcut := KL.cut_up (P := Try.prog) 23 3 Try.underlying23 hi0 A0 l0.length c0 ((l0.length : Int) + 4) (by omega) (by omega)
  rw [show ((l0.length : Int) + 4).toNat = l0.length + 4 by omega] at hcut
  clear hi0 hsz hR hm4
  go_enter Try.func12, Try.ntmps12
  go_wp2_with (go_at_call 23; (with_reducible refine (windhoverref00_SameInts.calls k _ _ l0 _ _ l0 true _ ?side1 ?side2 ?side3 ?side4 HH.out).mono ?_); (case side1 => exact HRow.out.2.2); (case side2 => exact HRow.out.2.1); (case side3 => exact HR1.out); (case side4 => exact HC1.out); rintro e w' ⟨rfl, ⟨nd, rfl⟩⟩)
  go_loopw [6] (fun v6 w' => ∃ i : Nat, l0.length ≤ i ∧ i ≤ l0.length + 4 ∧ v6 = .int .i64 i ∧ Drawn0 w w') (fun v _ => l0.length + 4 - (intOf v).toNat)
  case atStart => exact ⟨l0.length, Nat.le_refl _, by omega, rfl, ⟨nd, rfl⟩⟩
  case round =>
    obtain ⟨i, hi1, hi2, rfl, ⟨m, rfl⟩⟩ := hrel
    have hw1 : wrap64 ((i : Int) + 1) = ((i + 1 : Nat) : Int) := by unfold wrap64; omega
    by_cases hlt : i < l0.length + 4
    · have hlen : (l0 ++ marks).length = l0.length + 4 := by simp [marks]
      obtain ⟨ad, ea, hx⟩ := Kd.at_int HX.out.2.2 (i : Int) (by omega) (by omega)
      rw [rd_marks l0 i hi1 hlt, Int.toNat_natCast] at hx
      clear hlen
      subst ea
      have q0 : (0 : Int) ≤ (i : Int) := by omega
      have q1 : decide (i < l0.length + 4) = true := decide_eq_true hlt
      go_wp2
      go_roundw
      case rel => exact ⟨i + 1, by omega, by omega, by first | rfl | (rw [hw1]; done) | (simp; done) | go_num, ⟨m, rfl⟩⟩
      case measure => simp [intOf]; omega
    · have q1 : decide (i < l0.length + 4) = false := decide_eq_false hlt
      have hle : l0.length + 4 ≤ i := by omega
      go_wp2
      go_ret
      exact ⟨rfl, ⟨m, rfl⟩⟩
theorem sameInts_true (k : Nat) (l : List Int) (r : Bool) (h : windhoverref00_SameInts.f k l l = some r) : r = true := by
  have key : ∀ (k : Nat) (i : Int), windhoverref00_SameInts.l0 k l l i = some r → r = true := by
    intro k
    induction k with
    | zero => intro i h; cases h
    | succ k ih =>
      intro i h
      simp only [windhoverref00_SameInts.l0] at h
      split at h
      · split at h
        · simp only [if_true] at h
          exact ih _ h
        · cases h
      · exact (Option.some.inj h).symm
  unfold windhoverref00_SameInts.f at h
  rw [if_pos rfl] at h
  exact key k 0 h
theorem windhoverkeep_Kept.calls (k : Nat) (A0 : Option Addr) (c0 : Nat) (l0 : List Int) (A1 : Option Addr) (c1 : Nat) (l1 : List Int) (r : Bool) (w : World) (hr0 : ∃ base ok, KL.R marks (Kd.int .i64) 3 w base ok (.slice A0 l0.length c0) l0) (hc0 : l0.length ≤ c0)
    (hr1 : Kd.C (Kd.int .i64) w A1 l1.length l1) (hc1 : l1.length ≤ c1) (h : windhoverkeep_Kept.f k l0 l1 = some r) :
    Calls Try.prog 12 #[.slice A0 l0.length c0, .slice A1 l1.length c1] w fun e w' => e = .returned (.bool r) ∧ Drawn0 w w' := by
  obtain ⟨base, ok, hr0⟩ := hr0
  unfold windhoverkeep_Kept.f at h
  split at h
  · rename_i hc
    obtain ⟨rfl, hl⟩ := hc
    obtain rfl := sameInts_true k l0 r h
    exact kept_true k A0 c0 l0 A1 c1 w base ok hr0 hr1 hc1 hl h
  · cases h
end Go.Proofs.Yteleiocdjcdgcaa.X
