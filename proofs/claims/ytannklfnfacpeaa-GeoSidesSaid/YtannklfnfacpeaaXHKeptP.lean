/- The contract of lent and kept: a polygon lent with a marked corner behind it, and that it was kept, the mark too. -/
import Derived.Test.YtannklfnfacpeaaXx6
import Derived.Test.YtannklfnfacpeaaXHKeep
import Derived.Test.YtannklfnfacpeaaXHFits
namespace Go.Proofs.Ytannklfnfacpeaa.X
open Go.RowKit Go.Proofs.YtannklfnfacpeaaW.PrintWords Go.Proofs.YtannklfnfacpeaaW.PrintLast Go.Proofs.YtannklfnfacpeaaW.PrintMore Go.Proofs.Ytannklfnfacpeaa.HKit
set_option linter.unusedVariables false
set_option linter.unusedSimpArgs false
def markP : List S23 := [⟨-77, -77⟩]
/-- Kept, of what is as it was. -/
def windhoverlaw09_kept.f (k : Nat) (l0 l1 : List S23) : Option Bool := if (l0.map S23.f0 = l1.map S23.f0 ∧ l0.map S23.f1 = l1.map S23.f1) ∧ l0.length * 16 ≤ 140737488351232 then some true else none
theorem windhoverlaw09_kept.mono : ∀ a0 a1 k, LeO (windhoverlaw09_kept.f k a0 a1) (windhoverlaw09_kept.f (k + 1) a0 a1) := fun _ _ _ => LeO.refl _
theorem same_rows : ∀ l m : List S23, l.map S23.f0 = m.map S23.f0 → l.map S23.f1 = m.map S23.f1 → l = m
  | [], [], _, _ => rfl
  | [], _ :: _, h, _ => by cases h
  | _ :: _, [], h, _ => by cases h
  | ⟨a, b⟩ :: l, ⟨c, d⟩ :: m, h0, h1 => by
    simp only [List.map_cons, List.cons.injEq] at h0 h1
    rw [h0.1, h1.1, same_rows l m h0.2 h1.2]
theorem rd_app (l : List S23) (i : Nat) (h : i < l.length) : rd_T23 (l ++ markP) (i : Int) = rd_T23 l (i : Int) := by
  unfold rd_T23
  rw [Int.toNat_natCast, List.getD_eq_getElem?_getD, List.getD_eq_getElem?_getD, List.getElem?_append_left h]
theorem rd_mark (l : List S23) : rd_T23 (l ++ markP) (l.length : Int) = ⟨-77, -77⟩ := by
  unfold rd_T23
  rw [Int.toNat_natCast, List.getD_eq_getElem?_getD, List.getElem?_append_right (Nat.le_refl _), Nat.sub_self]
  rfl
theorem lentP_row {w : World} {base : Nat} {ok : Nat → Prop} {Ao : Option Addr} {co : Nat} {l0 x y z : List S23} (h1 : x = ([] : List S23) ++ l0) (h2 : y = x ++ [(⟨(-77), (-77)⟩ : S23)]) (h3 : z = y.take ((l0.length : Int) : Int).toNat)
    (hr : Kd.R k23 23 w base ok (.slice Ao y.length co) y) : KL.R markP k23 23 w base ok (.slice Ao z.length co) z := by
  rw [List.nil_append] at h1
  subst h1
  subst h2
  rw [Int.toNat_natCast, List.take_append_of_le_length (Nat.le_refl _), List.take_of_length_le (Nat.le_refl _)] at h3
  subst h3
  have hl : (z ++ [(⟨(-77), (-77)⟩ : S23)]).length = z.length + 1 := by simp
  have hc := (Kd.R_reads' hr).2.1
  rw [hl] at hr hc
  exact ⟨Ao, co, rfl, hc, hr⟩
set_option maxHeartbeats 8000000 in
set_option maxRecDepth 100000 in
theorem windhoverlaw09_lent.callsL (A0 : Option Addr) (c0 : Nat) (l0 : List (S23)) (r : List (S23)) (w : World) (hr0 : Kd.C k23 w A0 l0.length l0) (hc0 : l0.length ≤ c0) (h : windhoverlaw09_lent.f l0 = some r) :
    Calls Try.prog 21 #[.slice A0 l0.length c0] w fun e w' => ∃ v0_ : Value, e = .returned (v0_) ∧ KL.R markP k23 23 w' w.heap.size (fun _ => True) v0_ r ∧ Below w.heap.size w w' := by
  have hu23 := Try.underlying23
  have HR0 := A0_.mk hr0
  have HC0 := A0_.mk hc0
  clear hr0 hc0
  have HB := A0_.mk (Below.refl w.heap.size w)
  have H : (if ([] : List (S23)).length + l0.length < 8796093022208 then ((some (([] : List (S23)) ++ l0 : List (S23))).bind fun y237 => (if y237.length < 8796093022208 then ((some (y237 ++ [(⟨(-77), (-77)⟩ : S23)] : List (S23))).bind fun y240 => (if 0 ≤ (l0.length : Int) then (if (l0.length : Int) ≤ (y240.length : Int) then (some (y240.take ((l0.length : Int) : Int).toNat)) else (none)) else (none))) else (none))) else (none)) = some r := h
  clear h
  by_cases c2 : ([] : List (S23)).length + l0.length < 8796093022208
  · rw [if_pos c2] at H
    have LMc2 := A0_.mk c2
    clear c2
    obtain ⟨y237, hy237⟩ : ∃ y_ : List (S23), y_ = (([] : List (S23)) ++ l0) := ⟨_, rfl⟩
    replace H : (if y237.length < 8796093022208 then ((some (y237 ++ [(⟨(-77), (-77)⟩ : S23)] : List (S23))).bind fun y240 => (if 0 ≤ (l0.length : Int) then (if (l0.length : Int) ≤ (y240.length : Int) then (some (y240.take ((l0.length : Int) : Int).toNat)) else (none)) else (none))) else (none)) = some r := by first | (rw [hy237]; with_reducible exact H) | (have H2_ := (Option.bind_some _ _).symm.trans H; rw [hy237]; with_reducible exact H2_) | (have H2_ := (Option.bind_some _ _).symm.trans H; with_reducible exact H2_) | with_reducible exact H | (rw [hy237]; exact H) | exact H
    have Ny237 := A0_.mk hy237
    clear hy237
    by_cases c3 : y237.length < 8796093022208
    · rw [if_pos c3] at H
      have LMc3 := A0_.mk c3
      clear c3
      obtain ⟨y240, hy240⟩ : ∃ y_ : List (S23), y_ = (y237 ++ [(⟨(-77), (-77)⟩ : S23)]) := ⟨_, rfl⟩
      replace H : (if 0 ≤ (l0.length : Int) then (if (l0.length : Int) ≤ (y240.length : Int) then (some (y240.take ((l0.length : Int) : Int).toNat)) else (none)) else (none)) = some r := by first | (rw [hy240]; with_reducible exact H) | (have H2_ := (Option.bind_some _ _).symm.trans H; rw [hy240]; with_reducible exact H2_) | (have H2_ := (Option.bind_some _ _).symm.trans H; with_reducible exact H2_) | with_reducible exact H | (rw [hy240]; exact H) | exact H
      have Ny240 := A0_.mk hy240
      clear hy240
      by_cases c4 : 0 ≤ (l0.length : Int)
      · rw [if_pos c4] at H
        have c4b0 := eq_true c4
        have c4b1 : decide (0 ≤ (l0.length : Int)) = true := decide_eq_true c4
        clear c4
        by_cases c5 : (l0.length : Int) ≤ (y240.length : Int)
        · rw [if_pos c5] at H
          have c5b0 := eq_true c5
          have c5b1 : decide ((l0.length : Int) ≤ (y240.length : Int)) = true := decide_eq_true c5
          clear c5
          obtain ⟨y243, hy243⟩ : ∃ y_ : List (S23), y_ = (y240.take ((l0.length : Int) : Int).toNat) := ⟨_, rfl⟩
          replace H : (some y243) = some r := by first | (rw [hy243]; with_reducible exact H) | (have H2_ := (Option.bind_some _ _).symm.trans H; rw [hy243]; with_reducible exact H2_) | (have H2_ := (Option.bind_some _ _).symm.trans H; with_reducible exact H2_) | with_reducible exact H | (rw [hy243]; exact H) | exact H
          have Ny243 := A0_.mk hy243
          clear hy243
          obtain rfl := Option.some.inj H
          go_enter Try.func21, Try.ntmps21
          go_wp2_with (first | ((with_reducible refine gate_builtin (b := .append) (xs := #[.tmp 4, .tmp 5]) rfl ?_); at_builtin; refine Kd.R_append_rows k23 (w0 := w) w.heap.size rfl (.tmp 4) (.tmp 5) 35 23 (.agg #[(.int .i64 0), (.int .i64 0)]) 16 rfl Try.underlying35 info23 rfl (by decide) (by omega) (.slice none 0 0) ([] : List (S23)) l0 _ _ _ (fun _ => True) (fun _ => False) rfl rfl ?aO ?aR (fun _ _ h => h) (fun _ h => h.elim) ?aF ?aB ?aS ?aL ?_; (case aR => repeat (first | exact HR0.out | (with_reducible refine Kd.C_alloc ?_ _) | (with_reducible refine Kd.C_drewN ?_ _) | (with_reducible refine Kd.C_drew ?_))); (case aB => exact (by repeat (first | (with_reducible first | exact HB.out | apply bAl | apply pBn | apply bD1) | exact HB.out))); (case aF => exact (fun _ _ => trivial)); (case aO => exact ((Kd.R_nil _ _ _ _ (fun _ => True)))); (case aS => exact (bSz (by repeat (first | (with_reducible first | exact HB.out | apply bAl | apply pBn | apply bD1) | exact HB.out)))); (case aL => have := LMc2.out; omega); intro v238 w6 ho hb hg hat; rw [← Ny237.out] at ho; have n0_ := A0_.mk (hb); have n1_ := A0_.mk (ho); clear HB; have HB := n0_; have HO239 := n1_; clear n0_ n1_; clear ho hb hg hat) | ((with_reducible refine gate_builtin (b := .append) (xs := #[.tmp 7, .tmp 9]) rfl ?_); at_builtin; refine Kd.R_append k23 (w0 := w) w.heap.size rfl (.tmp 7) (.tmp 9) 35 23 (.agg #[(.int .i64 0), (.int .i64 0)]) 16 rfl Try.underlying35 info23 rfl (by decide) (by omega) v238 y237 (⟨(-77), (-77)⟩ : S23) [.int .i64 (-77), .int .i64 (-77)] (fun _ => True) (fun _ => False) rfl rfl ?aP (fun _ hk => hk.elim) ?aF ?aO ?aB ?aS ?aL ?_; (case aP => exact k23_mkM _ _ _ (⟨(-77), (-77)⟩ : S23)); (case aB => exact (by repeat (first | (with_reducible first | exact HB.out | apply bAl | apply pBn | apply bD1) | exact HB.out))); (case aF => exact (fun _ _ => trivial)); (case aO => exact (by (with_reducible repeat (first | apply Kd.R_alloc | apply Kd.R_drewN | apply Kd.R_drew)); exact HO239.out)); (case aS => exact (bSz (by repeat (first | (with_reducible first | exact HB.out | apply bAl | apply pBn | apply bD1) | exact HB.out)))); (case aL => have := LMc3.out; omega); intro v241 w7 ho hb hg hat; rw [← Ny240.out] at ho; have n0_ := A0_.mk (hb); have n1_ := A0_.mk (ho); clear HB; clear HO239; have HB := n0_; have HO242 := n1_; clear n0_ n1_; clear ho hb hg hat; obtain ⟨Ao8, co8, eo8⟩ := Kd.R_slice HO242.out; subst eo8; have HOL := HO242; have q9 : ((l0.length : Int) : Int) ≤ ((y240.length : Int) : Int) := of_decide_eq_true (by first | (with_reducible assumption) | assumption); obtain ⟨i09, hi09, _, hsz9, _⟩ := info_parts info23; have hcut9 := cut_to (P := Try.prog) 35 23 .i64 Try.underlying35 hi09 Ao8 y240.length co8 (l0.length : Int) (of_decide_eq_true (by first | (with_reducible assumption) | assumption)) q9 (Kd.R_reads' HO242.out).2.1; have hr9 := Kd.R_take (m := ((l0.length : Int) : Int).toNat) HO242.out (by omega); have hy9 : y243.length = ((l0.length : Int) : Int).toNat := (by rw [Ny243.out, List.length_take]; omega); rw [← Ny243.out] at hr9; rw [← hy9] at hr9 hcut9; clear hy9 hi09 hsz9 HO242; have HO245 := A0_.mk hr9; clear hr9; replace q9 := eq_true q9))
          go_ret
          exact ⟨_, by first | rfl | (simp [errW_none, errW_some] <;> rfl) | (simp [*, errW_none, errW_some] <;> rfl), lentP_row Ny237.out Ny240.out Ny243.out HOL.out, by repeat (first | (with_reducible first | exact HB.out | apply bAl | apply pBn | apply bD1) | exact HB.out)⟩
        · rw [if_neg c5] at H
          exact absurd H (by simp)
      · rw [if_neg c4] at H
        exact absurd H (by simp)
    · rw [if_neg c3] at H
      exact absurd H (by simp)
  · rw [if_neg c2] at H
    exact absurd H (by simp)

-- EXTERNAL: function 26 (windhoverlaw09_kept): HKeptP

/-! ### windhoverref09_Fits: function 36 -/
set_option maxHeartbeats 4000000 in
set_option maxRecDepth 100000 in
theorem keptP_true (A0 : Option Addr) (c0 : Nat) (l0 : List S23) (A1 : Option Addr) (c1 : Nat) (w : World) (base : Nat) (ok : Nat → Prop) (hr0 : KL.R markP k23 23 w base ok (.slice A0 l0.length c0) l0)
    (hr1 : Kd.C k23 w A1 l0.length l0) (hc1 : l0.length ≤ c1) (hl : l0.length * 16 ≤ 140737488351232) :
    Calls Try.prog 26 #[.slice A0 l0.length c0, .slice A1 l0.length c1] w fun e w' => e = .returned (.bool true) ∧ Drawn0 w w' := by
  have HR1 := A0_.mk hr1
  have HC1 := A0_.mk hc1
  have hl' : l0.length ≤ 8796093021952 := by omega
  clear hr1 hc1 hl
  obtain ⟨A, c, he, hc4, hR⟩ := hr0
  injection he with e1 e2 e3
  subst e1
  subst e3
  clear e2
  have hm1 : (markP : List S23).length = 1 := rfl
  rw [hm1] at hc4 hR
  have HX := (Kd.R_reads' hR).2.2
  obtain ⟨b, off, rfl, hb, hp⟩ := pts_of HX (by simp [markP])
  have HP := A0_.mk hp
  clear hp HX hR
  have hm := HP.out l0.length (by simp [markP])
  rw [rd_mark] at hm
  obtain ⟨m0, m1⟩ := hm
  obtain ⟨i0, hi0, _, hsz, _⟩ := info_parts info23
  have hcut := KL.cut_up (P := Try.prog) 35 23 Try.underlying35 hi0 (some ⟨b, off, none⟩) l0.length c0 ((l0.length : Int) + 1) (by omega) (by omega)
  rw [show ((l0.length : Int) + 1).toNat = l0.length + 1 by omega] at hcut
  clear hi0 hsz hm1
  have hwn : wrap64 ((l0.length : Int) + 1) = (l0.length : Int) + 1 := by unfold wrap64; omega
  go_enter Try.func26, Try.ntmps26
  go_wp2
  go_loopw [5] (fun v5 w' => ∃ i : Nat, i ≤ l0.length ∧ v5 = .int .i64 i ∧ Drawn0 w w') (fun v _ => l0.length - (intOf v).toNat)
  case atStart => exact ⟨0, Nat.zero_le _, rfl, Drawn0.refl _⟩
  case round =>
    obtain ⟨i, hi, rfl, ⟨m, rfl⟩⟩ := hrel
    have hw1 : wrap64 ((i : Int) + 1) = ((i + 1 : Nat) : Int) := by unfold wrap64; omega
    by_cases hlt : i < l0.length
    · obtain ⟨b1, off1, rfl, hb1, hp1⟩ := pts_of HR1.out (by omega)
      obtain ⟨y0, y1⟩ := hp1 i hlt
      obtain ⟨x0, x1⟩ := HP.out i (by simp; omega)
      rw [rd_app l0 i hlt] at x0 x1
      clear hp1
      generalize rd_T23 l0 (i : Int) = p at x0 x1 y0 y1
      have q0 : (0 : Int) ≤ (i : Int) := by omega
      have q1 : decide ((i : Int) < (l0.length : Int)) = true := decide_eq_true (by omega)
      go_wp2
      go_region_held3 (fun W' => W'.cell? ⟨b, off + i * 2, none⟩ = some (.int .i64 p.f0) ∧ W'.cell? ⟨b, off + i * 2 + 1, none⟩ = some (.int .i64 p.f1) ∧ W'.cell? ⟨b1, off1 + i * 2, none⟩ = some (.int .i64 p.f0) ∧ W'.cell? ⟨b1, off1 + i * 2 + 1, none⟩ = some (.int .i64 p.f1)) ((first | assumption | exact ⟨x0, x1, y0, y1⟩)) (fail)
      all_goals go_wp2
      all_goals go_roundw
      all_goals first | exact ⟨i + 1, by omega, by first | rfl | (rw [hw1]; done) | (simp; done) | go_num, ⟨_, rfl⟩⟩ | exact ⟨i + 1, by omega, by first | rfl | (rw [hw1]; done) | (simp; done) | go_num, ⟨m + 1, rfl⟩⟩ | (simp [intOf]; omega)
    · have q1 : decide ((i : Int) < (l0.length : Int)) = false := decide_eq_false (by omega)
      have q2 : (0 : Int) ≤ (l0.length : Int) := by omega
      go_wp2
      go_ret
      exact ⟨rfl, ⟨m, rfl⟩⟩
theorem windhoverlaw09_kept.calls (k : Nat) (A0 : Option Addr) (c0 : Nat) (l0 : List S23) (A1 : Option Addr) (c1 : Nat) (l1 : List S23) (r : Bool) (w : World) (hr0 : ∃ base ok, KL.R markP k23 23 w base ok (.slice A0 l0.length c0) l0) (hc0 : l0.length ≤ c0)
    (hr1 : Kd.C k23 w A1 l1.length l1) (hc1 : l1.length ≤ c1) (h : windhoverlaw09_kept.f k l0 l1 = some r) :
    Calls Try.prog 26 #[.slice A0 l0.length c0, .slice A1 l1.length c1] w fun e w' => e = .returned (.bool r) ∧ Drawn0 w w' := by
  obtain ⟨base, ok, hr0⟩ := hr0
  unfold windhoverlaw09_kept.f at h
  split at h
  · rename_i hc
    obtain ⟨⟨g0, g1⟩, hl⟩ := hc
    obtain rfl := same_rows _ _ g0 g1
    obtain rfl := Option.some.inj h
    exact keptP_true A0 c0 l0 A1 c1 w base ok hr0 hr1 hc1 hl
  · cases h
end Go.Proofs.Ytannklfnfacpeaa.X
