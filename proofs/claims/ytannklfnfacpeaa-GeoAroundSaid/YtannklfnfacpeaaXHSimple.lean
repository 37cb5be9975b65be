/- The contract of geo.Simple: a range over the polygon's sides. -/
import Derived.Test.YtannklfnfacpeaaXHSides
import Derived.Test.YtannklfnfacpeaaXHFits
import Derived.Test.YtannklfnfacpeaaXx4
namespace Go.Proofs.Ytannklfnfacpeaa.X
open Go.RowKit Go.Shelf Go.Proofs.YtannklfnfacpeaaW.PrintWords Go.Proofs.YtannklfnfacpeaaW.PrintLast Go.Proofs.YtannklfnfacpeaaW.PrintMore Go.Proofs.Ytannklfnfacpeaa.HKit
attribute [local go_sem] Oper.semAt_some
set_option linter.unusedVariables false
set_option linter.unusedSimpArgs false
theorem grownBy_keepsC {X Y : World} {row : Option Nat} (hg : X.grownBy Y row) (hr : ∀ r, row = some r → ∃ o : Obj, X.heap[r]? = some o ∧ o.isCells = false) {B : Nat} {cs : Array Value} {t : TypeId} {p : Nat × Nat} (h : X.heap[B]? = some (.cells cs t p)) : Y.heap[B]? = X.heap[B]? :=
  hg.block B (Array.getElem?_eq_some_iff.1 h).1 (fun e => by obtain ⟨o, ho, hc⟩ := hr B e.symm; rw [h] at ho; cases ho; cases hc)
def twin (x : S23 × S23) : Bool := x.1.f0 == x.2.f0 && (x.1.f1 == x.2.f1)
theorem upt_any_le {zs : List S23} {k n : Nat} {p : S23 × S23 → Bool} (h : k ≤ n) (hp : (upt zs k).any p = true) : (upt zs n).any p = true := by
  obtain ⟨x, hx, hpx⟩ := List.any_eq_true.1 hp
  refine List.any_eq_true.2 ⟨x, ?_, hpx⟩
  obtain ⟨i, hi, rfl⟩ := List.mem_map.1 hx
  exact List.mem_map.2 ⟨i, List.mem_range.2 (by have := List.mem_range.1 hi; omega), rfl⟩
def geo_Simple.f (k : Nat) (l : List S23) : Option Int :=
  if l.length < 3 then some 90 else if 64 < l.length then some 4 else (geo_fits.f l).bind fun b => if b = true then (if (upt l l.length).any twin then some 91 else (geo_tangled.f k l).bind fun t => if t = true then some 92 else some 0) else some 5
theorem geo_Simple.mono : ∀ a0 k, LeO (geo_Simple.f k a0) (geo_Simple.f (k + 1) a0) := by
  intro a0 k
  unfold geo_Simple.f
  refine LeO.ite (LeO.refl _) (LeO.ite (LeO.refl _) (LeO.bind (LeO.refl _) fun b => LeO.ite (LeO.ite (LeO.refl _) (LeO.bind (geo_tangled.mono _ _) fun t => LeO.refl _)) (LeO.refl _)))
set_option maxRecDepth 100000 in
set_option maxHeartbeats 4000000 in
theorem geo_Simple.calls (k : Nat) (A0 : Option Addr) (c0 : Nat) (l0 : List S23) (r : Int) (w : World) (hr0 : Kd.C k23 w A0 l0.length l0) (hc0 : l0.length ≤ c0) (h : geo_Simple.f k l0 = some r) :
    Calls Try.prog 22 #[.slice A0 l0.length c0] w fun e w' => e = .returned (.int .i64 r) ∧ Below w.heap.size w w' := by
  have HR0 := Aside0.mk hr0
  have HC0 := Aside0.mk hc0
  have H := Aside0.mk h
  clear hr0 hc0 h
  refine (callsIn_wide (n := 9)).1 ?_
  refine callsIn_of_wp_marks Try.func22 rfl trivial ?_ rfl
  simp only [Try.ntmps22, List.size_toArray, List.length_cons, List.length_nil, Nat.reduceAdd, Nat.reduceSub, Array.replicate_succ, Array.replicate_zero, List.push_toArray, List.append_toArray, List.nil_append, List.cons_append]
  by_cases c1 : l0.length < 3
  · have c1b : decide ((l0.length : Int) < 3) = true := decide_eq_true (by omega)
    have hr := H.out
    unfold geo_Simple.f at hr
    rw [if_pos c1] at hr
    obtain rfl := Option.some.inj hr
    gi_wp2
    refine ⟨.int .i64 90, ?_, rfl, (Below.refl _ w).alloc (Nat.le_refl _) _⟩
    simp [results, Try.f22, go_sem]
  · have c1b : decide ((l0.length : Int) < 3) = false := decide_eq_false (by omega)
    by_cases c2 : 64 < l0.length
    · have c2b : decide ((l0.length : Int) > 64) = true := decide_eq_true (by omega)
      have hr := H.out
      unfold geo_Simple.f at hr
      rw [if_neg c1, if_pos c2] at hr
      obtain rfl := Option.some.inj hr
      gi_wp2
      refine ⟨.int .i64 4, ?_, rfl, (Below.refl _ w).alloc (Nat.le_refl _) _⟩
      simp [results, Try.f22, go_sem]
    · have c2b : decide ((l0.length : Int) > 64) = false := decide_eq_false (by omega)
      have hr := H.out
      unfold geo_Simple.f at hr
      rw [if_neg c1, if_neg c2] at hr
      obtain ⟨fb, hfb, hr⟩ := Option.bind_eq_some_iff.mp hr
      have HF := Aside0.mk hfb
      have HR := Aside0.mk hr
      clear hfb hr H
      cases fb with
      | false =>
        have hr := HR.out
        simp only [Bool.false_eq_true, if_false, Option.some.injEq] at hr
        subst hr
        gi_wp2_with (refine ⟨trivial, ?_⟩; gi_at_call 34; refine (callsIn_wide.2 (geo_fits.calls A0 c0 l0 false _ (Kd.C_below HR0.out ((Below.refl _ w).alloc (Nat.le_refl _) _)) HC0.out HF.out)).mono ?_; rintro e w1 ⟨rfl, hb1⟩; have bR : Boxed w1 w.heap.size 24 (.int .i64 0) := (hb1.block _ (by simp)).trans (Boxed.new w 24 _); have cR := bR.cell; have fR := bR.frozen)
        refine ⟨.int .i64 5, ?_, rfl, ?_⟩
        · have := (bR.set (.int .i64 5)).cell
          simp [results, Try.f22, go_sem, this]
        · exact (((Below.refl _ w).alloc (Nat.le_refl _) _).trans (hb1.mono (by simp))).setCell (p := ⟨w.heap.size, 0, none⟩) (Nat.le_refl _) _
      | true =>
        have hr := HR.out
        simp only [if_true] at hr
        have HR := Aside0.mk hr
        clear hr
        gi_wp2_with (first | (refine ⟨trivial, ?_⟩; gi_at_call 34; refine (callsIn_wide.2 (geo_fits.calls A0 c0 l0 true _ (Kd.C_below HR0.out ((Below.refl _ w).alloc (Nat.le_refl _) _)) HC0.out HF.out)).mono ?_; rintro e w1 ⟨rfl, hb1⟩; have bR : Boxed w1 w.heap.size 24 (.int .i64 0) := (hb1.block _ (by simp)).trans (Boxed.new w 24 _); have cR := bR.cell; have fR := bR.frozen) | (refine ⟨trivial, ?_⟩; gi_at_call 43; refine (sides_in Fence.wide _ trivial rfl _ _ _ _).mono ?_; rintro e w2 ⟨rfl, rfl⟩))
        obtain ⟨b, off, rfl, hb, hp⟩ := pts_of HR0.out (by omega)
        have hB1 : Below w.heap.size w w1 := ((Below.refl _ w).alloc (Nat.le_refl _) _).trans (hb1.mono (by simp))
        have hs1 : w.heap.size + 1 ≤ w1.heap.size := by have := hb1.size; simp at this; omega
        have bS := Boxed.new w1 35 (.slice (some ⟨b, off, none⟩) l0.length c0)
        have bR2 := bR.alloc (.cells #[.slice (some ⟨b, off, none⟩) l0.length c0] 35)
        have hB2 : Below w.heap.size w (w1.alloc (.cells #[.slice (some ⟨b, off, none⟩) l0.length c0] 35)) := hB1.alloc (by omega) _
        have hz2 : (w1.alloc (.cells #[.slice (some ⟨b, off, none⟩) l0.length c0] 35)).heap.size = w1.heap.size + 1 := by simp
        obtain ⟨w2, hw2⟩ : ∃ w2, w1.alloc (.cells #[.slice (some ⟨b, off, none⟩) l0.length c0] 35) = w2 := ⟨_, rfl⟩
        rw [hw2] at bS bR2 hB2 hz2 ⊢
        refine wpIn_rangeFunc_ownH rfl (by decide) (gf := 55) (lb := #[.pointer (some ⟨w1.heap.size, 0, none⟩)]) rfl trivial (enters_of Try.func55 (by kernel_rfl) rfl)
          (sides_stops Fence.wide 8 trivial rfl (by decide) w1.heap.size w.heap.size b off c0 l0 (by omega) (by omega) w2 (by omega) hb (by omega) bS.cell (hp.below hb hB2)) (fun h k => h.trans k) (KpS.put (by omega) (by omega)) (Below.refl _ _) (fun _ => rfl)
          (fun pre W => (Aside0 (pre.any twin = false) ∧ Boxed W w.heap.size 24 (.int .i64 0)) ∧ Below w.heap.size w W)
          (fun c pre W => (c = .ret ∧ Aside0 (pre.any twin = true) ∧ Boxed W w.heap.size 24 (.int .i64 91)) ∧ Below w.heap.size w W)
          (OwnFrom.and (Own.from (fun s A B row hs hg hr => ⟨hs.1, boxed_own w.heap.size 24 (fun (_ : Unit) => Value.int .i64 0) () A B row hs.2 hg hr⟩) _) (ownFrom_below (Nat.le_refl _) (by omega)))
          (fun c => OwnFrom.and (Own.from (fun s A B row hs hg hr => ⟨hs.1, hs.2.1, boxed_own w.heap.size 24 (fun (_ : Unit) => Value.int .i64 91) () A B row hs.2.2 hg hr⟩) _) (ownFrom_below (Nat.le_refl _) (by omega)))
          ⟨⟨⟨rfl⟩, bR2⟩, hB2⟩
          (fun x a' W => ∃ B1 B2, w.heap.size ≠ B1 ∧ w.heap.size ≠ B2 ∧ W.heap[B1]? = some (.cells #[.int .i64 x.1.f0, .int .i64 x.1.f1] 23 (0, 0)) ∧ W.heap[B2]? = some (.cells #[.int .i64 x.2.f0, .int .i64 x.2.f1] 23 (0, 0)) ∧ a' = { tmps := #[.slice (some ⟨b, off, none⟩) l0.length c0, undef, .pointer (some ⟨w.heap.size, 0, none⟩), .pointer (some ⟨B1, 0, none⟩), .pointer (some ⟨B2, 0, none⟩), .bool false, .slice (some ⟨b, off, none⟩) l0.length c0, .int .i64 l0.length, .bool false, .bool false, .slice (some ⟨b, off, none⟩) l0.length c0, .int .i64 l0.length, .bool false, .bool false, .slice (some ⟨b, off, none⟩) l0.length c0, .bool true, .bool false, .slice (some ⟨b, off, none⟩) l0.length c0, .func (.func 55) #[] #[.pointer (some ⟨w1.heap.size, 0, none⟩)], aggP x.1, aggP x.2, undef, undef, undef, undef, undef], defers := [] })
          (fun x a' _ X Y row hs hg hr => by
            obtain ⟨B1, B2, h1, h2, h3, h4, h5⟩ := hs
            exact ⟨B1, B2, h1, h2, (grownBy_keepsC hg (fun r e => (hr r e).2) h3).trans h3, (grownBy_keepsC hg (fun r e => (hr r e).2) h4).trans h4, h5⟩)
          ?assign ?body ?done ?stop
        case assign =>
          rintro l pre x W K ⟨⟨ht, bR1⟩, hBW⟩ hK
          dsimp only [encS, aggP]
          gi_wp2
          exact hK _ _ (((KeepsOthers.alloc _ _).trans (KeepsOthers.alloc _ _)).from _) ((KpS.alloc hBW.size _).trans (KpS.alloc (by have := hBW.size; simp; omega) _)) ⟨⟨ht, (bR1.alloc _).alloc _⟩, (hBW.alloc hBW.size _).alloc (by have := hBW.size; simp; omega) _⟩
            ⟨W.heap.size, W.heap.size + 1, Nat.ne_of_lt bR1.lt, by have := bR1.lt; omega, (Below.heap_alloc _ _ _ (by simp)).trans (World.alloc_heap_new W _), by have := World.alloc_heap_new (W.alloc (.cells #[.int .i64 x.1.f0, .int .i64 x.1.f1] 23)) (.cells #[.int .i64 x.2.f0, .int .i64 x.2.f1] 23); rwa [World.size_alloc] at this, rfl⟩
        case body =>
          rintro l pre x a' W hl hr2 ⟨⟨ht, bR1⟩, hBW⟩ ⟨B1, B2, hn1, hn2, h3, h4, rfl⟩ hlt
          have x0 : W.cell? ⟨B1, 0, none⟩ = some (.int .i64 x.1.f0) := by simp [World.cell?, h3]
          have x1 : W.cell? ⟨B1, 1, none⟩ = some (.int .i64 x.1.f1) := by simp [World.cell?, h3]
          have x2 : W.cell? ⟨B2, 0, none⟩ = some (.int .i64 x.2.f0) := by simp [World.cell?, h4]
          have x3 : W.cell? ⟨B2, 1, none⟩ = some (.int .i64 x.2.f1) := by simp [World.cell?, h4]
          have cR1 := bR1.cell
          have fR1 := bR1.frozen
          gi_wp2
          · rename_i e1 e2
            exact ⟨(KeepsOthers.setCell _ _ _).from _, ⟨rfl, ⟨by rw [List.any_append]; simp [twin, e1, e2]⟩, bR1.set _⟩, hBW.setCell (p := ⟨w.heap.size, 0, none⟩) (Nat.le_refl _) _⟩
          · rename_i e1 e2
            exact ⟨KeepsFrom.refl _ _, KpS.refl _ _ _, ⟨⟨by rw [List.any_append, ht.out]; simp [twin, e2]⟩, bR1⟩, hBW⟩
          · rename_i e1
            exact ⟨KeepsFrom.refl _ _, KpS.refl _ _ _, ⟨⟨by rw [List.any_append, ht.out]; simp [twin, e1]⟩, bR1⟩, hBW⟩
        case done =>
          rintro D ys W hD rfl ⟨⟨ht, bR1⟩, hBW⟩ hK
          have hr := HR.out
          simp only [ht.out, Bool.false_eq_true, if_false] at hr
          obtain ⟨tb, htb, hr⟩ := Option.bind_eq_some_iff.mp hr
          have HT := Aside0.mk htb
          have HR' := Aside0.mk hr
          clear htb hr
          gi_wp2_with (refine ⟨trivial, ?_⟩; gi_at_call 44; refine (callsIn_wide.2 (geo_tangled.calls k _ c0 l0 tb _ (Kd.C_below HR0.out hBW) HC0.out HT.out)).mono ?_; rintro e w3 ⟨rfl, hb3⟩; have bR3 : Boxed w3 w.heap.size 24 (.int .i64 0) := (hb3.block _ bR1.lt).trans bR1; have cR3 := bR3.cell; have fR3 := bR3.frozen; have hK3 : w3.heap[D]? = some (.deferred (some [])) := (hb3.block _ (Array.getElem?_eq_some_iff.1 hK).1).trans hK)
          · have hr := HR'.out
            rename_i htb_
            rw [htb_] at hr
            simp only [if_true, Option.some.injEq] at hr
            subst hr
            have hK' := (KeepsOthers.setCell w3 ⟨w.heap.size, 0, none⟩ (.int .i64 92)).same D _ hK3 rfl
            refine ⟨by simp, .inl ⟨_, _, rfl, run_takeDeferred hK', ?_⟩⟩
            have hc5 := cell_kept (bR3.set (.int .i64 92)).cell (grownBy_putObj' _ D (.deferred none)) (fun r e => by cases e; exact ⟨_, hK', rfl⟩)
            refine ⟨.int .i64 92, ?_, rfl, ((hBW.trans (hb3.mono hBW.size)).setCell (p := ⟨w.heap.size, 0, none⟩) (Nat.le_refl _) _).trans (belowK_b (w := w) (Nat.le_refl _) _ D _ _ (by omega) hK' rfl rfl)⟩
            simp [results, Try.f22, go_sem, hc5]
          · have hr := HR'.out
            rename_i htb_
            rw [htb_] at hr
            simp only [Bool.false_eq_true, if_false, Option.some.injEq] at hr
            subst hr
            have hK' := (KeepsOthers.setCell w3 ⟨w.heap.size, 0, none⟩ (.int .i64 0)).same D _ hK3 rfl
            refine ⟨by simp, .inl ⟨_, _, rfl, run_takeDeferred hK', ?_⟩⟩
            have hc5 := cell_kept (bR3.set (.int .i64 0)).cell (grownBy_putObj' _ D (.deferred none)) (fun r e => by cases e; exact ⟨_, hK', rfl⟩)
            refine ⟨.int .i64 0, ?_, rfl, ((hBW.trans (hb3.mono hBW.size)).setCell (p := ⟨w.heap.size, 0, none⟩) (Nat.le_refl _) _).trans (belowK_b (w := w) (Nat.le_refl _) _ D _ _ (by omega) hK' rfl rfl)⟩
            simp [results, Try.f22, go_sem, hc5]
        case stop =>
          rintro D c pre W hD ⟨kk, hkk, rfl⟩ ⟨⟨rfl, ht, bR1⟩, hBW⟩ hK
          have hr := HR.out
          rw [if_pos (upt_any_le hkk ht.out)] at hr
          obtain rfl := Option.some.inj hr
          gi_wp2
          refine ⟨by simp, .inl ⟨_, _, rfl, run_takeDeferred hK, ?_⟩⟩
          have hc5 := cell_kept bR1.cell (grownBy_putObj' _ D (.deferred none)) (fun r e => by cases e; exact ⟨_, hK, rfl⟩)
          refine ⟨.int .i64 91, ?_, rfl, hBW.trans (belowK_b (w := w) (Nat.le_refl _) W D _ _ (by omega) hK rfl rfl)⟩
          simp [results, Try.f22, go_sem, hc5]
end Go.Proofs.Ytannklfnfacpeaa.X
