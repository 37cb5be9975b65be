/- The contract of geo.sides: the iterator over a polygon's sides. -/
import Derived.RangeFuncNested
import Derived.RangeFuncBound
import Derived.RangeFuncCalls
import Derived.RangeFuncLeaves
import Derived.Shelf.Abstract
import Derived.OwnWalkIn
import Derived.TacticsInMore
import Derived.LoopNIn
import Derived.LoopIn
import Derived.Test.YtannklfnfacpeaaXx0
import Derived.Test.YtannklfnfacpeaaXHKit
import Derived.Test.YtannklfnfacpeaaXHFits
namespace Go.Proofs.Ytannklfnfacpeaa.X
open Go.RowKit Go.Shelf Go.Proofs.YtannklfnfacpeaaW.PrintWords Go.Proofs.YtannklfnfacpeaaW.PrintLast Go.Proofs.YtannklfnfacpeaaW.PrintMore Go.Proofs.Ytannklfnfacpeaa.HKit
attribute [local go_sem] Oper.semAt_some
set_option linter.unusedVariables false
set_option linter.unusedSimpArgs false
def aggP (p : S23) : Value := .agg #[.int .i64 p.f0, .int .i64 p.f1]
def encS (x : S23 × S23) : Array Value := #[aggP x.1, aggP x.2]
def sideAt (zs : List S23) (j : Nat) : S23 × S23 := (rd_T23 zs (j : Int), rd_T23 zs (((j + 1) % zs.length : Nat) : Int))
def upt (zs : List S23) (k : Nat) : List (S23 × S23) := (List.range k).map (sideAt zs)
theorem upt_succ (zs : List S23) (k : Nat) : upt zs (k + 1) = upt zs k ++ [sideAt zs k] := by simp [upt, List.range_succ]
theorem sideAt_lt {zs : List S23} {k : Nat} (h : k < zs.length - 1) : sideAt zs k = (rd_T23 zs (k : Int), rd_T23 zs ((k : Int) + 1)) := by
  unfold sideAt
  rw [Nat.mod_eq_of_lt (by omega)]
  rfl
theorem sideAt_last {zs : List S23} (h : 1 ≤ zs.length) : sideAt zs (zs.length - 1) = (rd_T23 zs ((zs.length : Int) - 1), rd_T23 zs 0) := by
  unfold sideAt
  rw [show zs.length - 1 + 1 = zs.length by omega, Nat.mod_self, show ((zs.length - 1 : Nat) : Int) = (zs.length : Int) - 1 by omega]
  rfl
theorem below_drewK (n₀ : Nat) (W : World) : Below n₀ W W.drew := ⟨rfl, rfl, rfl, Nat.le_refl _, fun _ _ => rfl⟩
theorem upt_length (zs : List S23) (k : Nat) : (upt zs k).length = k := by simp [upt]
set_option maxHeartbeats 1000000 in
theorem sides_in (F : Fence) (n : Nat) (hf : F.fn 43) (hro : F.round = none) (a : Option Addr) (len cap : Nat) (w : World) :
    CallsIn F n Try.prog 43 #[.slice a len cap] w fun e w' => e = .returned (.func (.func 55) #[] #[.pointer (some ⟨w.heap.size, 0, none⟩)]) ∧ w' = w.alloc (.cells #[.slice a len cap] 35) := by
  refine callsIn_of_wp Try.func43 rfl hf ?_ hro
  simp only [Try.ntmps43, List.size_toArray, List.length_cons, List.length_nil, Nat.reduceAdd, Nat.reduceSub, Array.replicate_succ, Array.replicate_zero, List.push_toArray, List.append_toArray, List.nil_append, List.cons_append]
  gi_wp2
  go_ret
  exact ⟨rfl, rfl⟩
/-- What a round that goes on keeps: what lay below n₀, and the block Bs (the box of the slice). -/
def KpS (n₀ Bs : Nat) (W W' : World) : Prop := Below n₀ W W' ∧ (Bs < W.heap.size → W'.heap[Bs]? = W.heap[Bs]?)
theorem KpS.refl (n₀ Bs : Nat) (W : World) : KpS n₀ Bs W W := ⟨Below.refl _ _, fun _ => rfl⟩
theorem KpS.trans {n₀ Bs : Nat} {A B C : World} (h : KpS n₀ Bs A B) (k : KpS n₀ Bs B C) : KpS n₀ Bs A C := ⟨h.1.trans k.1, fun hb => (k.2 (Nat.lt_of_lt_of_le hb h.1.size)).trans (h.2 hb)⟩
theorem KpS.grown {n₀ Bs : Nat} {W W' : World} (hg : W.grownBy W' none) (hn : n₀ ≤ W.heap.size) : KpS n₀ Bs W W' := ⟨(Below.refl n₀ W).grown hg hn (fun k e => by cases e), fun hb => hg.block Bs hb (by simp)⟩
theorem KpS.alloc {n₀ Bs : Nat} {W : World} (hn : n₀ ≤ W.heap.size) (o : Obj) : KpS n₀ Bs W (W.alloc o) := KpS.grown (World.grownBy_alloc W o none) hn
theorem KpS.drew (n₀ Bs : Nat) (W : World) : KpS n₀ Bs W W.drew := ⟨below_drewK _ _, fun _ => rfl⟩
theorem KpS.put {n₀ Bs : Nat} {w : World} (hn : n₀ ≤ w.heap.size) (hB : Bs < w.heap.size) (W : World) (l : Nat) (o o' : Obj) (hl : w.heap.size ≤ l) (h : W.heap[l]? = some o) (_ : o.isCells = false) (_ : o.isWalk = false) : KpS n₀ Bs W (W.putObj l o') :=
  ⟨(Below.refl n₀ W).grown (grownBy_putObj' W l o') (by have := (Array.getElem?_eq_some_iff.1 h).1; omega) (fun k e => by cases e; omega), fun hb => (grownBy_putObj' W l o').block Bs hb (by intro e; cases e; omega)⟩
theorem KpS.cellB {n₀ Bs : Nat} {W W' : World} (h : KpS n₀ Bs W W') (hb : Bs < W.heap.size) (j : Nat) : W'.cell? ⟨Bs, j, none⟩ = W.cell? ⟨Bs, j, none⟩ := by
  unfold World.cell?
  rw [h.2 hb]
theorem KpS.of_below {n₀ n Bs : Nat} {W W' : World} (h : Below n W W') (hn : n₀ ≤ n) (hB : Bs < n) : KpS n₀ Bs W W' := ⟨h.mono hn, fun _ => h.block Bs hB⟩
set_option maxRecDepth 100000 in
set_option maxHeartbeats 4000000 in
theorem sides1_in (F : Fence) (n : Nat) (h55 : F.fn 55) (hro : F.round = none) (hn : 1 ≤ n) (l Bs n₀ b off cap : Nat) (zs : List S23) (hz1 : 1 ≤ zs.length) (hz : zs.length ≤ 1099511627776) (J Jx : List (S23 × S23) → World → Prop) (W : World)
    (hJ : AbidesFrom W.heap.size J)
    (hY : ∀ pre x W, J pre W → pre.length < zs.length → YieldAt F (n - 1) Try.prog l (encS x) W fun e W' =>
      (e = .returned (.bool true) ∧ J (pre ++ [x]) W' ∧ KpS n₀ Bs W W') ∨ (e = .returned (.bool false) ∧ Jx (pre ++ [x]) W'))
    (hBs : W.cell? ⟨Bs, 0, none⟩ = some (.slice (some ⟨b, off, none⟩) zs.length cap)) (hBl : Bs < W.heap.size) (hb : b < n₀) (hn₀ : n₀ ≤ W.heap.size) (hc : PtsAt W b off zs) (h0 : J [] W) :
    CallsIn F n Try.prog 55 #[.func (.yield l) #[] #[], .pointer (some ⟨Bs, 0, none⟩)] W fun e W' => (∃ v, e = .returned v) ∧
      ((∃ ys, ys = upt zs zs.length ∧ J ys W') ∨ (∃ pre, (∃ k, k ≤ zs.length ∧ pre = upt zs k) ∧ Jx pre W')) := by
  refine callsIn_of_wp Try.func55 rfl h55 ?_ hro
  simp only [Try.ntmps55, List.size_toArray, List.length_cons, List.length_nil, Nat.reduceAdd, Nat.reduceSub, Array.replicate_succ, Array.replicate_zero, List.push_toArray, List.append_toArray, List.nil_append, List.cons_append]
  gi_wp2
  gi_loopw [11] (fun i wr => ∃ k : Nat, k ≤ zs.length ∧ i = .int .i64 k ∧ J (upt zs (min k (zs.length - 1))) wr ∧ KpS n₀ Bs W wr ∧ W.heap.size ≤ wr.heap.size)
    (fun i _ => zs.length - (intOf i).toNat)
  case atStart => exact ⟨0, Nat.zero_le _, rfl, by simpa [upt] using h0, KpS.refl _ _ _, Nat.le_refl _⟩
  case round =>
    obtain ⟨k, hk, rfl, hJs, hnx, hsz⟩ := hrel
    have hBr : wr.cell? ⟨Bs, 0, none⟩ = some (.slice (some ⟨b, off, none⟩) zs.length cap) := (hnx.cellB hBl 0).trans hBs
    have hBw : Bs < wr.heap.size := by omega
    by_cases hkl : k < zs.length
    · obtain ⟨hx0, hx1⟩ := hc.below hb hnx.1 k hkl
      have hwk : wrap64 ((k : Int) + 1) = ((k + 1 : Nat) : Int) := by unfold wrap64; omega
      have hwk2 : IntKind.i64.wrap ((k : Int) + 1) = (k : Int) + 1 := by rw [IntKind.wrap_i64]; omega
      by_cases hlast : k < zs.length - 1
      · obtain ⟨hy0, hy1⟩ := hc.below hb hnx.1 (k + 1) (by omega)
        have c2 : decide ((k : Int) < (zs.length : Int) - 1) = true := decide_eq_true (by omega)
        obtain ⟨W1, hW1⟩ : ∃ W1, wr.alloc (.cells #[.int .i64 (rd_T23 zs (k : Int)).f0, .int .i64 (rd_T23 zs (k : Int)).f1] 23) = W1 := ⟨_, rfl⟩
        have hb1 : KpS n₀ Bs wr W1 := by rw [← hW1]; exact KpS.alloc (by omega) _
        have hp0 : W1.cell? ⟨wr.heap.size, 0, none⟩ = some (.int .i64 (rd_T23 zs (k : Int)).f0) := by rw [← hW1]; simp
        have hp1 : W1.cell? ⟨wr.heap.size, 1, none⟩ = some (.int .i64 (rd_T23 zs (k : Int)).f1) := by rw [← hW1]; simp
        have hBr1 := (hb1.cellB hBw 0).trans hBr
        have hJ1 : J (upt zs k) W1.drew := by
          have e : min k (zs.length - 1) = k := by omega
          rw [e] at hJs
          exact hJ _ _ _ none hJs (by rw [← hW1]; exact (World.grownBy_alloc wr _ none).trans ⟨rfl, rfl, rfl, Nat.le_refl _, fun _ _ _ => rfl⟩) (fun r e => by cases e)
        obtain ⟨fn, tmps, assign, body, hyl, hR⟩ := hY _ (rd_T23 zs (k : Int), rd_T23 zs ((k : Int) + 1)) _ hJ1 (by rw [upt_length]; exact hkl)
        dsimp only [encS, aggP] at hyl
        gi_wp2
        (try rw [hW1])
        have hz0 := (hb1.1.cell (p := ⟨b, off + (k + 1) * 2, none⟩) hb).trans hy0
        have hz1 := (hb1.1.cell (p := ⟨b, off + (k + 1) * 2 + 1, none⟩) hb).trans hy1
        clear hy0 hy1
        refine wpIn_region_any (by kernel_rfl) ?_
        change wpAnyIn _ _ _ _ _ _ _ _ _ (World.drew _)
        refine wpAnyIn_take (i := 0) (v := .int .i64 k) hro rfl (by kernel_rfl) (by kernel_rfl) (by kernel_rfl) (fun _ _ _ h => h) ⟨Or.inl ⟨by rfl, by (intro w; go_simp)⟩, fun _ => rfl⟩ ?_
        refine wpAnyIn_take (i := 1) (v := .int .i64 ((zs.length : Int) - 1)) hro rfl (by kernel_rfl) (by kernel_rfl) (by kernel_rfl) (fun _ _ _ h => h) ⟨Or.inl ⟨by rfl, by (intro w; go_simp)⟩, fun _ => rfl⟩ ?_
        refine wpAnyIn_take (i := 2) (v := .bool true) hro rfl (by kernel_rfl) (by kernel_rfl) (by kernel_rfl) (fun _ _ _ h => h) ⟨Or.inl ⟨by rfl, by (intro w; go_simp)⟩, fun _ => rfl⟩ ?_
        (try go_simp)
        refine wpAnyIn_take (i := 3) (v := .bool true) hro rfl (by kernel_rfl) (by kernel_rfl) (by kernel_rfl) (fun _ _ _ h => h) ⟨Or.inl ⟨by rfl, by (intro w; go_simp)⟩, fun _ => rfl⟩ ?_
        refine wpAnyIn_take (i := 4) (v := .func (.yield l) #[] #[]) hro rfl (by kernel_rfl) (by kernel_rfl) (by kernel_rfl) (fun _ _ _ h => h) ⟨Or.inl ⟨by rfl, by (intro w; go_simp)⟩, fun _ => rfl⟩ ?_
        refine wpAnyIn_take (i := 7) (v := .int .i64 k) hro rfl (by kernel_rfl) (by kernel_rfl) (by kernel_rfl) (fun _ _ _ h => h) ⟨Or.inl ⟨by rfl, by (intro w; go_simp)⟩, fun _ => rfl⟩ ?_
        (try go_simp)
        refine wpAnyIn_take (i := 8) (v := .int .i64 ((k + 1 : Nat) : Int)) hro rfl (by kernel_rfl) (by kernel_rfl) (by kernel_rfl) (fun _ _ _ h => h) ⟨Or.inl ⟨by rfl, by (intro w; go_simp; first | done | exact hwk | exact hwk2)⟩, fun _ => rfl⟩ ?_
        refine wpAnyIn_ready (rs := [5, 6]) (by kernel_rfl) (by simp) ?_
        refine AllReadyIn.cons rfl (fun K hK => ?_) (AllReadyIn.cons rfl (fun K hK => ?_) AllReadyIn.nil)
        · go_simp
          refine hK _ _ ?_
          clear hK K
          refine wpAnyIn_ready (rs := [6]) (by kernel_rfl) (by simp) ?_
          refine AllReadyIn.cons rfl (fun K hK => ?_) AllReadyIn.nil
          go_simp
          refine hK _ _ ?_
          clear hK K
          refine wpAnyIn_take (i := 9) (v := .pointer (some ⟨b, off + (k + 1) * 2, none⟩)) hro rfl (by kernel_rfl) (by kernel_rfl) (by kernel_rfl) (fun _ _ _ h => h) ⟨Or.inl ⟨by rfl, by (intro w; go_simp; (try (intro h; omega)))⟩, fun _ => rfl⟩ ?_
          refine wpAnyIn_ready (rs := [10]) (by kernel_rfl) (by simp) ?_
          refine AllReadyIn.cons rfl (fun K hK => ?_) AllReadyIn.nil
          go_simp
          refine hK _ _ ?_
          clear hK K
          refine wpAnyIn_ready (rs := [11]) (by kernel_rfl) (by simp) ?_
          refine AllReadyIn.cons rfl (fun K hK => ?_) AllReadyIn.nil
          go_simp
          (try rw [hyl])
          first | refine ⟨fun _ => by omega, hR.mono ?_⟩ | refine hR.mono ?_
          rintro e W3 (⟨rfl, hJ3, hk3⟩ | ⟨rfl, hJx3⟩)
          · refine hK _ _ ?_
            clear hK K
            refine wpAnyIn_take (i := 12) (v := .bool false) hro rfl (by kernel_rfl) (by kernel_rfl) (by kernel_rfl) (fun _ _ _ h => h) ⟨Or.inl ⟨by rfl, by (intro w; go_simp)⟩, fun _ => rfl⟩ ?_
            refine wpAnyIn_take (i := 13) (v := .bool false) hro rfl (by kernel_rfl) (by kernel_rfl) (by kernel_rfl) (fun _ _ _ h => h) ⟨Or.inl ⟨by rfl, by (intro w; go_simp)⟩, fun _ => rfl⟩ ?_
            refine wpAnyIn_done (by kernel_rfl) ?_ _
            gi_wp2
            go_roundw
            case rel =>
              refine ⟨k + 1, by omega, by first | rfl | (simp; done) | go_num, ?_, hnx.trans (hb1.trans ((KpS.drew _ _ _).trans hk3)), Nat.le_trans hsz (Nat.le_trans (by rw [← hW1]; simp) hk3.1.size)⟩
              rw [show min (k + 1) (zs.length - 1) = k + 1 by omega, upt_succ, sideAt_lt hlast]
              exact hJ3
            case measure => simp [intOf]; omega
          · refine hK _ _ ?_
            clear hK K
            refine wpAnyIn_take (i := 12) (v := .bool true) hro rfl (by kernel_rfl) (by kernel_rfl) (by kernel_rfl) (fun _ _ _ h => h) ⟨Or.inl ⟨by rfl, by (intro w; go_simp)⟩, fun _ => rfl⟩ ?_
            refine wpAnyIn_take (i := 13) (v := .bool true) hro rfl (by kernel_rfl) (by kernel_rfl) (by kernel_rfl) (fun _ _ _ h => h) ⟨Or.inl ⟨by rfl, by (intro w; go_simp)⟩, fun _ => rfl⟩ ?_
            refine wpAnyIn_done (by kernel_rfl) ?_ _
            gi_wp2
            refine bodyPost_ret (results_none rfl _ _ _) rfl ?_
            exact ⟨⟨_, rfl⟩, .inr ⟨_, ⟨k + 1, by omega, by rw [upt_succ, sideAt_lt hlast]⟩, hJx3⟩⟩
        · go_simp
          refine hK _ _ ?_
          clear hK K
          refine wpAnyIn_take (i := 9) (v := .pointer (some ⟨b, off + (k + 1) * 2, none⟩)) hro rfl (by kernel_rfl) (by kernel_rfl) (by kernel_rfl) (fun _ _ _ h => h) ⟨Or.inl ⟨by rfl, by (intro w; go_simp; (try (intro h; omega)))⟩, fun _ => rfl⟩ ?_
          refine wpAnyIn_ready (rs := [5, 10]) (by kernel_rfl) (by simp) ?_
          refine AllReadyIn.cons rfl (fun K hK => ?_) (AllReadyIn.cons rfl (fun K hK => ?_) AllReadyIn.nil)
          · go_simp
            refine hK _ _ ?_
            clear hK K
            refine wpAnyIn_ready (rs := [10]) (by kernel_rfl) (by simp) ?_
            refine AllReadyIn.cons rfl (fun K hK => ?_) AllReadyIn.nil
            go_simp
            refine hK _ _ ?_
            clear hK K
            refine wpAnyIn_ready (rs := [11]) (by kernel_rfl) (by simp) ?_
            refine AllReadyIn.cons rfl (fun K hK => ?_) AllReadyIn.nil
            go_simp
            (try rw [hyl])
            first | refine ⟨fun _ => by omega, hR.mono ?_⟩ | refine hR.mono ?_
            rintro e W3 (⟨rfl, hJ3, hk3⟩ | ⟨rfl, hJx3⟩)
            · refine hK _ _ ?_
              clear hK K
              refine wpAnyIn_take (i := 12) (v := .bool false) hro rfl (by kernel_rfl) (by kernel_rfl) (by kernel_rfl) (fun _ _ _ h => h) ⟨Or.inl ⟨by rfl, by (intro w; go_simp)⟩, fun _ => rfl⟩ ?_
              refine wpAnyIn_take (i := 13) (v := .bool false) hro rfl (by kernel_rfl) (by kernel_rfl) (by kernel_rfl) (fun _ _ _ h => h) ⟨Or.inl ⟨by rfl, by (intro w; go_simp)⟩, fun _ => rfl⟩ ?_
              refine wpAnyIn_done (by kernel_rfl) ?_ _
              gi_wp2
              go_roundw
              case rel =>
                refine ⟨k + 1, by omega, by first | rfl | (simp; done) | go_num, ?_, hnx.trans (hb1.trans ((KpS.drew _ _ _).trans hk3)), Nat.le_trans hsz (Nat.le_trans (by rw [← hW1]; simp) hk3.1.size)⟩
                rw [show min (k + 1) (zs.length - 1) = k + 1 by omega, upt_succ, sideAt_lt hlast]
                exact hJ3
              case measure => simp [intOf]; omega
            · refine hK _ _ ?_
              clear hK K
              refine wpAnyIn_take (i := 12) (v := .bool true) hro rfl (by kernel_rfl) (by kernel_rfl) (by kernel_rfl) (fun _ _ _ h => h) ⟨Or.inl ⟨by rfl, by (intro w; go_simp)⟩, fun _ => rfl⟩ ?_
              refine wpAnyIn_take (i := 13) (v := .bool true) hro rfl (by kernel_rfl) (by kernel_rfl) (by kernel_rfl) (fun _ _ _ h => h) ⟨Or.inl ⟨by rfl, by (intro w; go_simp)⟩, fun _ => rfl⟩ ?_
              refine wpAnyIn_done (by kernel_rfl) ?_ _
              gi_wp2
              refine bodyPost_ret (results_none rfl _ _ _) rfl ?_
              exact ⟨⟨_, rfl⟩, .inr ⟨_, ⟨k + 1, by omega, by rw [upt_succ, sideAt_lt hlast]⟩, hJx3⟩⟩
          · go_simp
            refine hK _ _ ?_
            clear hK K
            refine wpAnyIn_ready (rs := [5]) (by kernel_rfl) (by simp) ?_
            refine AllReadyIn.cons rfl (fun K hK => ?_) AllReadyIn.nil
            go_simp
            refine hK _ _ ?_
            clear hK K
            refine wpAnyIn_ready (rs := [11]) (by kernel_rfl) (by simp) ?_
            refine AllReadyIn.cons rfl (fun K hK => ?_) AllReadyIn.nil
            go_simp
            (try rw [hyl])
            first | refine ⟨fun _ => by omega, hR.mono ?_⟩ | refine hR.mono ?_
            rintro e W3 (⟨rfl, hJ3, hk3⟩ | ⟨rfl, hJx3⟩)
            · refine hK _ _ ?_
              clear hK K
              refine wpAnyIn_take (i := 12) (v := .bool false) hro rfl (by kernel_rfl) (by kernel_rfl) (by kernel_rfl) (fun _ _ _ h => h) ⟨Or.inl ⟨by rfl, by (intro w; go_simp)⟩, fun _ => rfl⟩ ?_
              refine wpAnyIn_take (i := 13) (v := .bool false) hro rfl (by kernel_rfl) (by kernel_rfl) (by kernel_rfl) (fun _ _ _ h => h) ⟨Or.inl ⟨by rfl, by (intro w; go_simp)⟩, fun _ => rfl⟩ ?_
              refine wpAnyIn_done (by kernel_rfl) ?_ _
              gi_wp2
              go_roundw
              case rel =>
                refine ⟨k + 1, by omega, by first | rfl | (simp; done) | go_num, ?_, hnx.trans (hb1.trans ((KpS.drew _ _ _).trans hk3)), Nat.le_trans hsz (Nat.le_trans (by rw [← hW1]; simp) hk3.1.size)⟩
                rw [show min (k + 1) (zs.length - 1) = k + 1 by omega, upt_succ, sideAt_lt hlast]
                exact hJ3
              case measure => simp [intOf]; omega
            · refine hK _ _ ?_
              clear hK K
              refine wpAnyIn_take (i := 12) (v := .bool true) hro rfl (by kernel_rfl) (by kernel_rfl) (by kernel_rfl) (fun _ _ _ h => h) ⟨Or.inl ⟨by rfl, by (intro w; go_simp)⟩, fun _ => rfl⟩ ?_
              refine wpAnyIn_take (i := 13) (v := .bool true) hro rfl (by kernel_rfl) (by kernel_rfl) (by kernel_rfl) (fun _ _ _ h => h) ⟨Or.inl ⟨by rfl, by (intro w; go_simp)⟩, fun _ => rfl⟩ ?_
              refine wpAnyIn_done (by kernel_rfl) ?_ _
              gi_wp2
              refine bodyPost_ret (results_none rfl _ _ _) rfl ?_
              exact ⟨⟨_, rfl⟩, .inr ⟨_, ⟨k + 1, by omega, by rw [upt_succ, sideAt_lt hlast]⟩, hJx3⟩⟩
      · have c2 : decide ((k : Int) < (zs.length : Int) - 1) = false := decide_eq_false (by omega)
        obtain ⟨W1, hW1⟩ : ∃ W1, wr.alloc (.cells #[.int .i64 (rd_T23 zs (k : Int)).f0, .int .i64 (rd_T23 zs (k : Int)).f1] 23) = W1 := ⟨_, rfl⟩
        have hb1 : KpS n₀ Bs wr W1 := by rw [← hW1]; exact KpS.alloc (by omega) _
        have hJ1 : J (upt zs (zs.length - 1)) W1.drew := by
          have e : min k (zs.length - 1) = zs.length - 1 := by omega
          rw [e] at hJs
          exact hJ _ _ _ none hJs (by rw [← hW1]; exact (World.grownBy_alloc wr _ none).trans ⟨rfl, rfl, rfl, Nat.le_refl _, fun _ _ _ => rfl⟩) (fun r e => by cases e)
        gi_wp2
        (try rw [hW1])
        refine wpIn_region_any (by kernel_rfl) ?_
        change wpAnyIn _ _ _ _ _ _ _ _ _ (World.drew _)
        refine wpAnyIn_take (i := 0) (v := .int .i64 k) hro rfl (by kernel_rfl) (by kernel_rfl) (by kernel_rfl) (fun _ _ _ h => h) ⟨Or.inl ⟨by rfl, by (intro w; go_simp)⟩, fun _ => rfl⟩ ?_
        refine wpAnyIn_take (i := 1) (v := .int .i64 ((zs.length : Int) - 1)) hro rfl (by kernel_rfl) (by kernel_rfl) (by kernel_rfl) (fun _ _ _ h => h) ⟨Or.inl ⟨by rfl, by (intro w; go_simp)⟩, fun _ => rfl⟩ ?_
        refine wpAnyIn_take (i := 2) (v := .bool false) hro rfl (by kernel_rfl) (by kernel_rfl) (by kernel_rfl) (fun _ _ _ h => h) ⟨Or.inl ⟨by rfl, by (intro w; go_simp)⟩, fun _ => rfl⟩ ?_
        (try go_simp)
        refine wpAnyIn_take (i := 3) (v := .bool false) hro rfl (by kernel_rfl) (by kernel_rfl) (by kernel_rfl) (fun _ _ _ h => h) ⟨Or.inl ⟨by rfl, by (intro w; go_simp)⟩, fun _ => rfl⟩ ?_
        refine wpAnyIn_take (i := 4) (v := undef) hro rfl (by kernel_rfl) (by kernel_rfl) (by kernel_rfl) (fun _ _ _ h => h) ⟨Or.inr ⟨by rfl, rfl⟩, fun _ => rfl⟩ ?_
        refine wpAnyIn_take (i := 5) (v := undef) hro rfl (by kernel_rfl) (by kernel_rfl) (by kernel_rfl) (fun _ _ _ h => h) ⟨Or.inr ⟨by rfl, rfl⟩, fun _ => rfl⟩ ?_
        (try go_simp)
        refine wpAnyIn_take (i := 6) (v := undef) hro rfl (by kernel_rfl) (by kernel_rfl) (by kernel_rfl) (fun _ _ _ h => h) ⟨Or.inr ⟨by rfl, rfl⟩, fun _ => rfl⟩ ?_
        refine wpAnyIn_take (i := 7) (v := undef) hro rfl (by kernel_rfl) (by kernel_rfl) (by kernel_rfl) (fun _ _ _ h => h) ⟨Or.inr ⟨by rfl, rfl⟩, fun _ => rfl⟩ ?_
        refine wpAnyIn_take (i := 8) (v := undef) hro rfl (by kernel_rfl) (by kernel_rfl) (by kernel_rfl) (fun _ _ _ h => h) ⟨Or.inr ⟨by rfl, rfl⟩, fun _ => rfl⟩ ?_
        (try go_simp)
        refine wpAnyIn_take (i := 9) (v := undef) hro rfl (by kernel_rfl) (by kernel_rfl) (by kernel_rfl) (fun _ _ _ h => h) ⟨Or.inr ⟨by rfl, rfl⟩, fun _ => rfl⟩ ?_
        refine wpAnyIn_take (i := 10) (v := undef) hro rfl (by kernel_rfl) (by kernel_rfl) (by kernel_rfl) (fun _ _ _ h => h) ⟨Or.inr ⟨by rfl, rfl⟩, fun _ => rfl⟩ ?_
        refine wpAnyIn_take (i := 11) (v := undef) hro rfl (by kernel_rfl) (by kernel_rfl) (by kernel_rfl) (fun _ _ _ h => h) ⟨Or.inr ⟨by rfl, rfl⟩, fun _ => rfl⟩ ?_
        (try go_simp)
        refine wpAnyIn_take (i := 12) (v := undef) hro rfl (by kernel_rfl) (by kernel_rfl) (by kernel_rfl) (fun _ _ _ h => h) ⟨Or.inr ⟨by rfl, rfl⟩, fun _ => rfl⟩ ?_
        refine wpAnyIn_take (i := 13) (v := .bool false) hro rfl (by kernel_rfl) (by kernel_rfl) (by kernel_rfl) (fun _ _ _ h => h) ⟨Or.inl ⟨by rfl, by (intro w; go_simp)⟩, fun _ => rfl⟩ ?_
        refine wpAnyIn_done (by kernel_rfl) ?_ _
        gi_wp2
        go_roundw
        case rel =>
          refine ⟨k + 1, by omega, by first | rfl | (simp; done) | go_num, ?_, hnx.trans (hb1.trans (KpS.drew _ _ _)), Nat.le_trans hsz (by rw [← hW1]; simp)⟩
          rw [show min (k + 1) (zs.length - 1) = zs.length - 1 by omega]
          exact hJ1
        case measure => simp [intOf]; omega
    · obtain rfl : k = zs.length := by omega
      have c1 : decide ((zs.length : Int) < (zs.length : Int)) = false := decide_eq_false (by omega)
      have htn : ((zs.length : Int) - 1).toNat = zs.length - 1 := by omega
      have hsb : (((zs.length - 1 : Nat) : Int)) = (zs.length : Int) - 1 := by omega
      have hlb := hc.below hb hnx.1 (zs.length - 1) (by omega)
      rw [hsb] at hlb
      obtain ⟨hy0, hy1⟩ := hlb
      have h00 := hc.below hb hnx.1 0 (by omega)
      simp only [Nat.zero_mul, Nat.add_zero] at h00
      obtain ⟨hz0, hz1'⟩ := h00
      have hJ1 : J (upt zs (zs.length - 1)) wr.drew := by
        have e : min zs.length (zs.length - 1) = zs.length - 1 := by omega
        rw [e] at hJs
        exact hJ _ _ _ none hJs ⟨rfl, rfl, rfl, Nat.le_refl _, fun _ _ _ => rfl⟩ (fun r e => by cases e)
      obtain ⟨fn, tmps, assign, body, hyl, hR⟩ := hY _ (rd_T23 zs ((zs.length : Int) - 1), rd_T23 zs 0) _ hJ1 (by rw [upt_length]; omega)
      dsimp only [encS, aggP] at hyl
      gi_wp2
      refine wpIn_region_any (by kernel_rfl) ?_
      change wpAnyIn _ _ _ _ _ _ _ _ _ (World.drew _)
      refine wpAnyIn_take (i := 0) (v := .func (.yield l) #[] #[]) hro rfl (by kernel_rfl) (by kernel_rfl) (by kernel_rfl) (fun _ _ _ h => h) ⟨Or.inl ⟨by rfl, by (intro w; go_simp)⟩, fun _ => rfl⟩ ?_
      refine wpAnyIn_take (i := 2) (v := .int .i64 ((zs.length : Int) - 1)) hro rfl (by kernel_rfl) (by kernel_rfl) (by kernel_rfl) (fun _ _ _ h => h) ⟨Or.inl ⟨by rfl, by (intro w; go_simp)⟩, fun _ => rfl⟩ ?_
      refine wpAnyIn_ready (rs := [1, 5]) (by kernel_rfl) (by simp) ?_
      refine AllReadyIn.cons rfl (fun K hK => ?_) (AllReadyIn.cons rfl (fun K hK => ?_) AllReadyIn.nil)
      · go_simp
        refine hK _ _ ?_
        clear hK K
        refine wpAnyIn_take (i := 3) (v := .pointer (some ⟨b, off + (zs.length - 1) * 2, none⟩)) hro rfl (by kernel_rfl) (by kernel_rfl) (by kernel_rfl) (fun _ _ _ h => h) ⟨Or.inl ⟨by rfl, by (intro w; go_simp; (try rw [htn]); (try (intro h; omega)))⟩, fun _ => rfl⟩ ?_
        refine wpAnyIn_ready (rs := [4, 5]) (by kernel_rfl) (by simp) ?_
        refine AllReadyIn.cons rfl (fun K hK => ?_) (AllReadyIn.cons rfl (fun K hK => ?_) AllReadyIn.nil)
        · go_simp
          refine hK _ _ ?_
          clear hK K
          refine wpAnyIn_ready (rs := [5]) (by kernel_rfl) (by simp) ?_
          refine AllReadyIn.cons rfl (fun K hK => ?_) AllReadyIn.nil
          go_simp
          refine hK _ _ ?_
          clear hK K
          refine wpAnyIn_take (i := 6) (v := .pointer (some ⟨b, off, none⟩)) hro rfl (by kernel_rfl) (by kernel_rfl) (by kernel_rfl) (fun _ _ _ h => h) ⟨Or.inl ⟨by rfl, by (intro w; go_simp; (try (intro h; rw [h] at hz1; cases hz1)))⟩, fun _ => rfl⟩ ?_
          refine wpAnyIn_ready (rs := [7]) (by kernel_rfl) (by simp) ?_
          refine AllReadyIn.cons rfl (fun K hK => ?_) AllReadyIn.nil
          go_simp
          refine hK _ _ ?_
          clear hK K
          refine wpAnyIn_ready (rs := [8]) (by kernel_rfl) (by simp) ?_
          refine AllReadyIn.cons rfl (fun K hK => ?_) AllReadyIn.nil
          go_simp
          (try rw [hyl])
          first | refine ⟨fun _ => by omega, hR.mono ?_⟩ | refine hR.mono ?_
          rintro e W3 (⟨rfl, hJ3, hk3⟩ | ⟨rfl, hJx3⟩)
          · refine hK _ _ ?_
            clear hK K
            refine wpAnyIn_done (by kernel_rfl) ?_ _
            gi_wp2
            go_end0
            refine ⟨⟨_, rfl⟩, .inl ⟨_, rfl, ?_⟩⟩
            rw [show zs.length = zs.length - 1 + 1 by omega, upt_succ, sideAt_last hz1]
            exact hJ3
          · refine hK _ _ ?_
            clear hK K
            refine wpAnyIn_done (by kernel_rfl) ?_ _
            gi_wp2
            go_end0
            refine ⟨⟨_, rfl⟩, .inr ⟨_, ⟨zs.length, Nat.le_refl _, rfl⟩, ?_⟩⟩
            rw [show zs.length = zs.length - 1 + 1 by omega, upt_succ, sideAt_last hz1]
            exact hJx3
        · go_simp
          refine hK _ _ ?_
          clear hK K
          refine wpAnyIn_take (i := 6) (v := .pointer (some ⟨b, off, none⟩)) hro rfl (by kernel_rfl) (by kernel_rfl) (by kernel_rfl) (fun _ _ _ h => h) ⟨Or.inl ⟨by rfl, by (intro w; go_simp; (try (intro h; rw [h] at hz1; cases hz1)))⟩, fun _ => rfl⟩ ?_
          refine wpAnyIn_ready (rs := [4, 7]) (by kernel_rfl) (by simp) ?_
          refine AllReadyIn.cons rfl (fun K hK => ?_) (AllReadyIn.cons rfl (fun K hK => ?_) AllReadyIn.nil)
          · go_simp
            refine hK _ _ ?_
            clear hK K
            refine wpAnyIn_ready (rs := [7]) (by kernel_rfl) (by simp) ?_
            refine AllReadyIn.cons rfl (fun K hK => ?_) AllReadyIn.nil
            go_simp
            refine hK _ _ ?_
            clear hK K
            refine wpAnyIn_ready (rs := [8]) (by kernel_rfl) (by simp) ?_
            refine AllReadyIn.cons rfl (fun K hK => ?_) AllReadyIn.nil
            go_simp
            (try rw [hyl])
            first | refine ⟨fun _ => by omega, hR.mono ?_⟩ | refine hR.mono ?_
            rintro e W3 (⟨rfl, hJ3, hk3⟩ | ⟨rfl, hJx3⟩)
            · refine hK _ _ ?_
              clear hK K
              refine wpAnyIn_done (by kernel_rfl) ?_ _
              gi_wp2
              go_end0
              refine ⟨⟨_, rfl⟩, .inl ⟨_, rfl, ?_⟩⟩
              rw [show zs.length = zs.length - 1 + 1 by omega, upt_succ, sideAt_last hz1]
              exact hJ3
            · refine hK _ _ ?_
              clear hK K
              refine wpAnyIn_done (by kernel_rfl) ?_ _
              gi_wp2
              go_end0
              refine ⟨⟨_, rfl⟩, .inr ⟨_, ⟨zs.length, Nat.le_refl _, rfl⟩, ?_⟩⟩
              rw [show zs.length = zs.length - 1 + 1 by omega, upt_succ, sideAt_last hz1]
              exact hJx3
          · go_simp
            refine hK _ _ ?_
            clear hK K
            refine wpAnyIn_ready (rs := [4]) (by kernel_rfl) (by simp) ?_
            refine AllReadyIn.cons rfl (fun K hK => ?_) AllReadyIn.nil
            go_simp
            refine hK _ _ ?_
            clear hK K
            refine wpAnyIn_ready (rs := [8]) (by kernel_rfl) (by simp) ?_
            refine AllReadyIn.cons rfl (fun K hK => ?_) AllReadyIn.nil
            go_simp
            (try rw [hyl])
            first | refine ⟨fun _ => by omega, hR.mono ?_⟩ | refine hR.mono ?_
            rintro e W3 (⟨rfl, hJ3, hk3⟩ | ⟨rfl, hJx3⟩)
            · refine hK _ _ ?_
              clear hK K
              refine wpAnyIn_done (by kernel_rfl) ?_ _
              gi_wp2
              go_end0
              refine ⟨⟨_, rfl⟩, .inl ⟨_, rfl, ?_⟩⟩
              rw [show zs.length = zs.length - 1 + 1 by omega, upt_succ, sideAt_last hz1]
              exact hJ3
            · refine hK _ _ ?_
              clear hK K
              refine wpAnyIn_done (by kernel_rfl) ?_ _
              gi_wp2
              go_end0
              refine ⟨⟨_, rfl⟩, .inr ⟨_, ⟨zs.length, Nat.le_refl _, rfl⟩, ?_⟩⟩
              rw [show zs.length = zs.length - 1 + 1 by omega, upt_succ, sideAt_last hz1]
              exact hJx3
      · go_simp
        refine hK _ _ ?_
        clear hK K
        refine wpAnyIn_take (i := 6) (v := .pointer (some ⟨b, off, none⟩)) hro rfl (by kernel_rfl) (by kernel_rfl) (by kernel_rfl) (fun _ _ _ h => h) ⟨Or.inl ⟨by rfl, by (intro w; go_simp; (try (intro h; rw [h] at hz1; cases hz1)))⟩, fun _ => rfl⟩ ?_
        refine wpAnyIn_ready (rs := [1, 7]) (by kernel_rfl) (by simp) ?_
        refine AllReadyIn.cons rfl (fun K hK => ?_) (AllReadyIn.cons rfl (fun K hK => ?_) AllReadyIn.nil)
        · go_simp
          refine hK _ _ ?_
          clear hK K
          refine wpAnyIn_take (i := 3) (v := .pointer (some ⟨b, off + (zs.length - 1) * 2, none⟩)) hro rfl (by kernel_rfl) (by kernel_rfl) (by kernel_rfl) (fun _ _ _ h => h) ⟨Or.inl ⟨by rfl, by (intro w; go_simp; (try rw [htn]); (try (intro h; omega)))⟩, fun _ => rfl⟩ ?_
          refine wpAnyIn_ready (rs := [4, 7]) (by kernel_rfl) (by simp) ?_
          refine AllReadyIn.cons rfl (fun K hK => ?_) (AllReadyIn.cons rfl (fun K hK => ?_) AllReadyIn.nil)
          · go_simp
            refine hK _ _ ?_
            clear hK K
            refine wpAnyIn_ready (rs := [7]) (by kernel_rfl) (by simp) ?_
            refine AllReadyIn.cons rfl (fun K hK => ?_) AllReadyIn.nil
            go_simp
            refine hK _ _ ?_
            clear hK K
            refine wpAnyIn_ready (rs := [8]) (by kernel_rfl) (by simp) ?_
            refine AllReadyIn.cons rfl (fun K hK => ?_) AllReadyIn.nil
            go_simp
            (try rw [hyl])
            first | refine ⟨fun _ => by omega, hR.mono ?_⟩ | refine hR.mono ?_
            rintro e W3 (⟨rfl, hJ3, hk3⟩ | ⟨rfl, hJx3⟩)
            · refine hK _ _ ?_
              clear hK K
              refine wpAnyIn_done (by kernel_rfl) ?_ _
              gi_wp2
              go_end0
              refine ⟨⟨_, rfl⟩, .inl ⟨_, rfl, ?_⟩⟩
              rw [show zs.length = zs.length - 1 + 1 by omega, upt_succ, sideAt_last hz1]
              exact hJ3
            · refine hK _ _ ?_
              clear hK K
              refine wpAnyIn_done (by kernel_rfl) ?_ _
              gi_wp2
              go_end0
              refine ⟨⟨_, rfl⟩, .inr ⟨_, ⟨zs.length, Nat.le_refl _, rfl⟩, ?_⟩⟩
              rw [show zs.length = zs.length - 1 + 1 by omega, upt_succ, sideAt_last hz1]
              exact hJx3
          · go_simp
            refine hK _ _ ?_
            clear hK K
            refine wpAnyIn_ready (rs := [4]) (by kernel_rfl) (by simp) ?_
            refine AllReadyIn.cons rfl (fun K hK => ?_) AllReadyIn.nil
            go_simp
            refine hK _ _ ?_
            clear hK K
            refine wpAnyIn_ready (rs := [8]) (by kernel_rfl) (by simp) ?_
            refine AllReadyIn.cons rfl (fun K hK => ?_) AllReadyIn.nil
            go_simp
            (try rw [hyl])
            first | refine ⟨fun _ => by omega, hR.mono ?_⟩ | refine hR.mono ?_
            rintro e W3 (⟨rfl, hJ3, hk3⟩ | ⟨rfl, hJx3⟩)
            · refine hK _ _ ?_
              clear hK K
              refine wpAnyIn_done (by kernel_rfl) ?_ _
              gi_wp2
              go_end0
              refine ⟨⟨_, rfl⟩, .inl ⟨_, rfl, ?_⟩⟩
              rw [show zs.length = zs.length - 1 + 1 by omega, upt_succ, sideAt_last hz1]
              exact hJ3
            · refine hK _ _ ?_
              clear hK K
              refine wpAnyIn_done (by kernel_rfl) ?_ _
              gi_wp2
              go_end0
              refine ⟨⟨_, rfl⟩, .inr ⟨_, ⟨zs.length, Nat.le_refl _, rfl⟩, ?_⟩⟩
              rw [show zs.length = zs.length - 1 + 1 by omega, upt_succ, sideAt_last hz1]
              exact hJx3
        · go_simp
          refine hK _ _ ?_
          clear hK K
          refine wpAnyIn_ready (rs := [1]) (by kernel_rfl) (by simp) ?_
          refine AllReadyIn.cons rfl (fun K hK => ?_) AllReadyIn.nil
          go_simp
          refine hK _ _ ?_
          clear hK K
          refine wpAnyIn_take (i := 3) (v := .pointer (some ⟨b, off + (zs.length - 1) * 2, none⟩)) hro rfl (by kernel_rfl) (by kernel_rfl) (by kernel_rfl) (fun _ _ _ h => h) ⟨Or.inl ⟨by rfl, by (intro w; go_simp; (try rw [htn]); (try (intro h; omega)))⟩, fun _ => rfl⟩ ?_
          refine wpAnyIn_ready (rs := [4]) (by kernel_rfl) (by simp) ?_
          refine AllReadyIn.cons rfl (fun K hK => ?_) AllReadyIn.nil
          go_simp
          refine hK _ _ ?_
          clear hK K
          refine wpAnyIn_ready (rs := [8]) (by kernel_rfl) (by simp) ?_
          refine AllReadyIn.cons rfl (fun K hK => ?_) AllReadyIn.nil
          go_simp
          (try rw [hyl])
          first | refine ⟨fun _ => by omega, hR.mono ?_⟩ | refine hR.mono ?_
          rintro e W3 (⟨rfl, hJ3, hk3⟩ | ⟨rfl, hJx3⟩)
          · refine hK _ _ ?_
            clear hK K
            refine wpAnyIn_done (by kernel_rfl) ?_ _
            gi_wp2
            go_end0
            refine ⟨⟨_, rfl⟩, .inl ⟨_, rfl, ?_⟩⟩
            rw [show zs.length = zs.length - 1 + 1 by omega, upt_succ, sideAt_last hz1]
            exact hJ3
          · refine hK _ _ ?_
            clear hK K
            refine wpAnyIn_done (by kernel_rfl) ?_ _
            gi_wp2
            go_end0
            refine ⟨⟨_, rfl⟩, .inr ⟨_, ⟨zs.length, Nat.le_refl _, rfl⟩, ?_⟩⟩
            rw [show zs.length = zs.length - 1 + 1 by omega, upt_succ, sideAt_last hz1]
            exact hJx3
set_option maxHeartbeats 1000000 in
theorem sides_stops (F : Fence) (n : Nat) (h55 : F.fn 55) (hro : F.round = none) (hn : 1 ≤ n) (Bs n₀ b off cap : Nat) (zs : List S23) (hz1 : 1 ≤ zs.length) (hz : zs.length ≤ 1099511627776) (w : World)
    (hBl : Bs < w.heap.size) (hb : b < n₀) (hn₀ : n₀ ≤ w.heap.size) (hc : w.cell? ⟨Bs, 0, none⟩ = some (.slice (some ⟨b, off, none⟩) zs.length cap)) (hI : PtsAt w b off zs) :
    SeqStopsK F n Try.prog 55 #[.pointer (some ⟨Bs, 0, none⟩)] encS (KpS n₀ Bs) (fun ys => ys = upt zs zs.length) (fun pre => ∃ k, k ≤ zs.length ∧ pre = upt zs k) zs.length w := fun l J Jx W hW hJ _ hY h0 =>
  sides1_in F n h55 hro hn l Bs n₀ b off cap zs hz1 hz J Jx W hJ hY ((hW.cell (p := ⟨Bs, 0, none⟩) (by show Bs < _; omega)).trans hc) (Nat.lt_of_lt_of_le hBl hW.size) hb (Nat.le_trans hn₀ hW.size) (hI.below (n₀ := w.heap.size) (by omega) hW) h0
end Go.Proofs.Ytannklfnfacpeaa.X
