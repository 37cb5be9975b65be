/- The contract of geo.fits: a library function that is handed a closure: what it answers, for all points of a slice, in whatever memory. -/
import Derived.Test.YtannklfnfacpeaaXx0
import Derived.Test.YtannklfnfacpeaaXHKit
namespace Go.Proofs.Ytannklfnfacpeaa.X
open Go.RowKit Go.Proofs.YtannklfnfacpeaaW.PrintWords Go.Proofs.YtannklfnfacpeaaW.PrintLast Go.Proofs.YtannklfnfacpeaaW.PrintMore Go.Proofs.Ytannklfnfacpeaa.HKit
attribute [local go_sem] max2_int min2_int max_two min_two
set_option linter.unusedVariables false
set_option linter.unusedSimpArgs false
/-- Points in memory: the cells of each. -/
def PtsAt (W : World) (b off : Nat) (zs : List S23) : Prop := ∀ k : Nat, k < zs.length → W.cell? ⟨b, off + k * 2, none⟩ = some (.int .i64 (rd_T23 zs (k : Int)).f0) ∧ W.cell? ⟨b, off + k * 2 + 1, none⟩ = some (.int .i64 (rd_T23 zs (k : Int)).f1)
theorem PtsAt.below {n₀ : Nat} {W W' : World} {b off : Nat} {zs : List S23} (h : PtsAt W b off zs) (hb : b < n₀) (hw : Below n₀ W W') : PtsAt W' b off zs :=
  fun k hk => ⟨(hw.cell (p := ⟨b, off + k * 2, none⟩) hb).trans (h k hk).1, (hw.cell (p := ⟨b, off + k * 2 + 1, none⟩) hb).trans (h k hk).2⟩
theorem pts_of {W : World} {A : Option Addr} {zs : List S23} (h : Kd.C k23 W A zs.length zs) (h1 : 1 ≤ zs.length) : ∃ b off, A = some ⟨b, off, none⟩ ∧ b < W.heap.size ∧ PtsAt W b off zs := by
  obtain ⟨ad, ea, hx0, _⟩ := at_T23 h 0 (by omega) (by omega)
  obtain ⟨b, off, sp⟩ := ad
  have hs : sp = none := by
    cases sp with
    | none => rfl
    | some s =>
      exfalso
      simp only [Int.toNat_zero, Nat.zero_mul, Addr.add, if_true, World.cell?] at hx0
      split at hx0 <;> simp at hx0
  subst hs
  refine ⟨b, off, ea, World.block_lt_of_cell? W _ hx0, fun k hk => ?_⟩
  obtain ⟨ad', ea', h0, h2⟩ := at_T23 h (k : Int) (by omega) (by omega)
  rw [ea] at ea'
  cases ea'
  have e : (⟨b, off, none⟩ : Addr).add ((k : Int).toNat * 2) = ⟨b, off + k * 2, none⟩ := by
    unfold Addr.add
    by_cases hk0 : k = 0
    · subst hk0; rfl
    · rw [if_neg (by omega)]; simp
  rw [e] at h0 h2
  exact ⟨h0, h2⟩
def outP (p : S23) : Bool := decide (p.f0 < -536870912 ∨ p.f1 < -536870912 ∨ p.f0 > 536870912 ∨ p.f1 > 536870912)
set_option maxHeartbeats 2000000 in
theorem pred51 (x : S23) (W : World) : Calls Try.prog 51 #[.agg #[.int .i64 x.f0, .int .i64 x.f1]] W fun e w' => e = .returned (.bool (outP x)) ∧ Below W.heap.size W w' := by
  have hr : (outP x = true) ↔ (x.f0 < -536870912 ∨ x.f1 < -536870912 ∨ x.f0 > 536870912 ∨ x.f1 > 536870912) := by simp [outP]
  generalize outP x = r at hr ⊢
  have HO := Aside0.mk hr
  clear hr
  go_enter Try.func51, Try.ntmps51
  go_wp2
  all_goals go_ret
  all_goals refine ⟨?_, below_alloc (Below.refl _ _) _⟩
  all_goals refine congrArg (fun b => Ending.returned (Value.bool b)) (?_ : _ = r)
  all_goals (have hr := HO.out; rw [Bool.eq_iff_iff, hr]; simp; omega)
set_option maxHeartbeats 2000000 in
theorem index57 (b off c : Nat) (zs : List S23) (w : World) (hb : b < w.heap.size) (hr0 : PtsAt w b off zs) (hz : zs.length ≤ 1099511627776) :
    Calls Try.prog 57 #[.slice (some ⟨b, off, none⟩) zs.length c, .func (.func 51) #[] #[]] w fun e w' => ∃ r : Int, e = .returned (.int .i64 r) ∧ decide (0 ≤ r) = zs.any outP ∧ Below w.heap.size w w' := by
  have HR0 := Aside0.mk hr0
  clear hr0
  go_enter Try.func57, Try.ntmps57
  go_wp2
  go_loopw [5, 8] (fun _ v8 wr => ∃ kk : Nat, kk ≤ zs.length ∧ v8 = .int .i64 kk ∧ Aside0 (Below w.heap.size w wr) ∧ Aside0 (∀ j : Nat, j < kk → outP (rd_T23 zs (j : Int)) = false)) (fun _ v _ => zs.length - (intOf v).toNat)
  case atStart => exact ⟨0, Nat.zero_le _, rfl, ⟨Below.refl _ w⟩, ⟨fun j hj => absurd hj (Nat.not_lt_zero _)⟩⟩
  case round =>
    obtain ⟨kk, hkk, rfl, HB, HA⟩ := hrel
    have hw1 : wrap64 ((kk : Int) + 1) = ((kk + 1 : Nat) : Int) := by unfold wrap64; omega
    by_cases hlt : kk < zs.length
    · have hltz : decide ((kk : Int) < (zs.length : Int)) = true := decide_eq_true (by omega)
      obtain ⟨hx0, hx1⟩ := HR0.out.below hb HB.out kk hlt
      have hcall := pred51 (rd_T23 zs (kk : Int))
      generalize hy : rd_T23 zs (kk : Int) = y at hx0 hx1 hcall
      have HY := Aside0.mk hy
      clear hy
      have p0 : (0 : Int) ≤ (kk : Int) := by omega
      cases hq : outP y with
      | true =>
        rw [hq] at hcall
        go_wp2_with (go_at_call 51; refine (hcall _).mono ?_; rintro e w' ⟨rfl, hb'⟩)
        go_ret
        refine ⟨(kk : Int), rfl, ?_, below_step HB.out hb'⟩
        rw [decide_eq_true p0]
        refine (List.any_eq_true.2 ⟨y, ?_, hq⟩).symm
        rw [← HY.out]
        show zs.getD ((kk : Int).toNat) z23 ∈ zs
        rw [Int.toNat_natCast, List.getD_eq_getElem?_getD, List.getElem?_eq_getElem hlt]
        exact List.getElem_mem hlt
      | false =>
        rw [hq] at hcall
        go_wp2_with (go_at_call 51; refine (hcall _).mono ?_; rintro e w' ⟨rfl, hb'⟩)
        go_roundw
        case rel =>
          refine ⟨kk + 1, by omega, by first | rfl | (rw [hw1]; done) | (simp; done) | go_num, ⟨below_step HB.out hb'⟩, ⟨fun j hj => ?_⟩⟩
          by_cases e : j = kk
          · subst e
            rw [HY.out]; exact hq
          · exact HA.out j (by omega)
        case measure => simp [intOf]; omega
    · have hltz : decide ((kk : Int) < (zs.length : Int)) = false := decide_eq_false (by omega)
      go_wp2
      go_ret
      refine ⟨-1, rfl, ?_, HB.out⟩
      refine Eq.trans (by decide) (List.any_eq_false.2 ?_).symm
      intro y hy hq
      obtain ⟨j, hj, rfl⟩ := List.getElem_of_mem hy
      have := HA.out j (by omega)
      rw [show rd_T23 zs (j : Int) = zs[j] by simp [rd_T23, hj]] at this
      rw [hq] at this
      cases this
set_option maxHeartbeats 1000000 in
theorem index57n (A : Option Addr) (c : Nat) (v : Value) (w : World) :
    Calls Try.prog 57 #[.slice A 0 c, v] w fun e w' => ∃ r : Int, e = .returned (.int .i64 r) ∧ decide (0 ≤ r) = ([] : List S23).any outP ∧ Below w.heap.size w w' := by
  go_enter Try.func57, Try.ntmps57
  go_wp2
  go_loopw [5, 8] (fun _ v8 wr => v8 = .int .i64 0 ∧ wr = w) (fun _ v _ => 0)
  case atStart => exact ⟨rfl, rfl⟩
  case round =>
    obtain ⟨rfl, rfl⟩ := hrel
    go_wp2
    go_ret
    exact ⟨-1, rfl, by decide, Below.refl _ _⟩
theorem contains50 (A : Option Addr) (c : Nat) (zs : List S23) (w : World) (hr0 : Kd.C k23 w A zs.length zs) (hz : zs.length ≤ 1099511627776) :
    Calls Try.prog 50 #[.slice A zs.length c, .func (.func 51) #[] #[]] w fun e w' => e = .returned (.bool (zs.any outP)) ∧ Below w.heap.size w w' := by
  have H : Aside0 (Calls Try.prog 57 #[.slice A zs.length c, .func (.func 51) #[] #[]] w fun e w' => ∃ r : Int, e = .returned (.int .i64 r) ∧ decide (0 ≤ r) = zs.any outP ∧ Below w.heap.size w w') := ⟨by
    by_cases h1 : 1 ≤ zs.length
    · obtain ⟨b, off, rfl, hb, hp⟩ := pts_of hr0 h1
      exact index57 b off c zs w hb hp hz
    · obtain rfl : zs = [] := List.length_eq_zero_iff.1 (by omega)
      exact index57n A c _ w⟩
  clear hr0
  generalize zs.any outP = b0 at H ⊢
  go_enter Try.func50, Try.ntmps50
  go_wp2_with (go_at_call 57; refine H.out.mono ?_; rintro e w' ⟨r, rfl, hr, hb⟩)
  go_ret
  exact ⟨by rw [← hr]; rfl, hb⟩
/-- May all coordinates be? -/
def geo_fits.f (l : List S23) : Option Bool := if l.length ≤ 1099511627776 then some (!(l.any outP)) else none
theorem geo_fits.calls (A0 : Option Addr) (c0 : Nat) (l0 : List S23) (r : Bool) (w : World) (hr0 : Kd.C k23 w A0 l0.length l0) (hc0 : l0.length ≤ c0) (h : geo_fits.f l0 = some r) :
    Calls Try.prog 34 #[.slice A0 l0.length c0] w fun e w' => e = .returned (.bool r) ∧ Below w.heap.size w w' := by
  unfold geo_fits.f at h
  split at h
  · obtain rfl := Option.some.inj h
    have H := Aside0.mk (contains50 A0 c0 l0 w hr0 ‹_›)
    clear hr0 h
    generalize l0.any outP = b at H ⊢
    go_enter Try.func34, Try.ntmps34
    go_wp2_with (go_at_call 50; refine H.out.mono ?_; rintro e w' ⟨rfl, hb⟩)
    go_ret
    exact ⟨rfl, hb⟩
  · cases h
end Go.Proofs.Ytannklfnfacpeaa.X
