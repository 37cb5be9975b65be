/- The contract of geo.Side: how often the polygon's sides go round the point. -/
import Derived.Test.YtannklfnfacpeaaXHBox
import Derived.Test.YtannklfnfacpeaaXHArea
namespace Go.Proofs.Ytannklfnfacpeaa.X
open Go.RowKit Go.Shelf Go.Proofs.YtannklfnfacpeaaW.PrintWords Go.Proofs.YtannklfnfacpeaaW.PrintLast Go.Proofs.YtannklfnfacpeaaW.PrintMore Go.Proofs.Ytannklfnfacpeaa.HKit
attribute [local go_sem] Oper.semAt_some
set_option linter.unusedVariables false
set_option linter.unusedSimpArgs false
theorem boxed2_kept {X Y : World} {row : Option Nat} (hg : X.grownBy Y row) (hr : ∀ r, row = some r → ∃ o : Obj, X.heap[r]? = some o ∧ o.isCells = false) {B : Nat} {p q : Int} (h : Boxed2 X B p q) : Boxed2 Y B p q := (grownBy_keepsC hg hr h).trans h
def geo_Side.f (k : Nat) (l : List S23) (p q : Int) : Option (Int × Int) :=
  (geo_Simple.f k l).bind fun e => if e = 0 then (geo_fits.f [(⟨p, q⟩ : S23)]).bind fun b => if b = true then some (sideV l p q, 0) else some (0, 5) else some (0, e)
theorem geo_Side.mono : ∀ a0 a1 a2 k, LeO (geo_Side.f k a0 a1 a2) (geo_Side.f (k + 1) a0 a1 a2) := by
  intro a0 a1 a2 k
  unfold geo_Side.f
  exact LeO.bind (geo_Simple.mono _ _) fun t => LeO.refl _
set_option maxRecDepth 100000 in
set_option maxHeartbeats 8000000 in
theorem geo_Side.calls (k : Nat) (A0 : Option Addr) (c0 : Nat) (l0 : List S23) (p q : Int) (r1 : Int) (r2 : Int) (w : World) (hr0 : Kd.C k23 w A0 l0.length l0) (hc0 : l0.length ≤ c0) (h : geo_Side.f k l0 p q = some (r1, r2)) :
    Calls Try.prog 27 #[.slice A0 l0.length c0, .agg #[.int .i64 p, .int .i64 q]] w fun e w' => e = .returned (.tuple #[.int .i64 r1, .int .i64 r2]) ∧ Below w.heap.size w w' := by
  have HR0 := Aside0.mk hr0
  have HC0 := Aside0.mk hc0
  unfold geo_Side.f at h
  obtain ⟨e, he, h⟩ := Option.bind_eq_some_iff.mp h
  have HE := Aside0.mk he
  have H := Aside0.mk h
  clear hr0 hc0 h he
  have bP := ((Boxed2.new w p q).alloc (.cells #[.int .i64 0] 3)).alloc (.cells #[.int .i64 0] 24)
  have bR := (Boxed.new (w.alloc (.cells #[.int .i64 p, .int .i64 q] 23)) 3 (.int .i64 0)).alloc (.cells #[.int .i64 0] 24)
  have bE := Boxed.new ((w.alloc (.cells #[.int .i64 p, .int .i64 q] 23)).alloc (.cells #[.int .i64 0] 3)) 24 (.int .i64 0)
  simp only [World.size_alloc] at bR bE
  have hBA : Below w.heap.size w (((w.alloc (.cells #[.int .i64 p, .int .i64 q] 23)).alloc (.cells #[.int .i64 0] 3)).alloc (.cells #[.int .i64 0] 24)) := (((Below.refl _ w).alloc (Nat.le_refl _) _).alloc (by simp) _).alloc (by simp; omega) _
  have hzA : (((w.alloc (.cells #[.int .i64 p, .int .i64 q] 23)).alloc (.cells #[.int .i64 0] 3)).alloc (.cells #[.int .i64 0] 24)).heap.size = w.heap.size + 3 := by simp
  obtain ⟨wA, hwA⟩ : ∃ wA, ((w.alloc (.cells #[.int .i64 p, .int .i64 q] 23)).alloc (.cells #[.int .i64 0] 3)).alloc (.cells #[.int .i64 0] 24) = wA := ⟨_, rfl⟩
  rw [hwA] at bP bR bE hBA hzA
  refine (callsIn_wide (n := 9)).1 ?_
  refine callsIn_of_wp_marks Try.func27 rfl trivial ?_ rfl
  simp only [Try.ntmps27, List.size_toArray, List.length_cons, List.length_nil, Nat.reduceAdd, Nat.reduceSub, Array.replicate_succ, Array.replicate_zero, List.push_toArray, List.append_toArray, List.nil_append, List.cons_append]
  by_cases c1 : e = 0
  · subst c1
    have hr := H.out
    simp only [if_true] at hr
    obtain ⟨fb, hfb, hr⟩ := Option.bind_eq_some_iff.mp hr
    have HFB := Aside0.mk hfb
    have H' := Aside0.mk hr
    clear hr hfb H
    have hbd := simple_bound HE.out
    cases fb with
    | false =>
      have hr := H'.out
      simp only [Bool.false_eq_true, if_false, Option.some.injEq, Prod.mk.injEq] at hr
      obtain ⟨rfl, rfl⟩ := hr
      gi_wp2_with (first | (refine ⟨trivial, ?_⟩; gi_at_call 22; (try rw [hwA]); refine (callsIn_wide.2 (geo_Simple.calls k A0 c0 l0 0 wA (Kd.C_below HR0.out hBA) HC0.out HE.out)).mono ?_; rintro e_ w1 ⟨rfl, hb1⟩; have hs1 := hb1.size; have bP1 := bP.below hb1 (by omega); have bR1 := Boxed.below bR hb1 (by omega); have bE1 := Boxed.below bE hb1 (by omega); have cp0 := bP1.c0; have cp1 := bP1.c1; have cr := bR1.cell; have fr := bR1.frozen; have ce := bE1.cell; have fe := bE1.frozen) | (refine ⟨trivial, ?_⟩; gi_at_call 34; refine (callsIn_wide.2 (geo_fits.calls _ _ [(⟨p, q⟩ : S23)] false _ (one_point (Boxed2.new w1 p q)) (Nat.le_refl _) HFB.out)).mono ?_; clear cp0 cp1 cr fr ce fe; rintro e_ w3 ⟨rfl, hb3⟩; have hs3 := hb3.size; rw [World.size_alloc] at hs3; have hb13 : Below w1.heap.size w1 w3 := ((Below.refl _ w1).alloc (Nat.le_refl _) _).trans (hb3.mono (by simp)); have bP3 := bP1.below hb13 (by omega); have bR3 := Boxed.below bR1 hb13 (by omega); have bE3 := Boxed.below bE1 hb13 (by omega); have cp0 := bP3.c0; have cp1 := bP3.c1; have cr := bR3.cell; have fr := bR3.frozen; have ce := bE3.cell; have fe := bE3.frozen))
      refine ⟨.tuple #[.int .i64 0, .int .i64 5], ?_, rfl, ?_⟩
      · have h4 := ((bR3.set (.int .i64 0)).other (B' := w.heap.size + 1 + 1) (by omega) (.int .i64 5)).cell
        have h5 := ((bE3.other (B' := w.heap.size + 1) (by omega) (.int .i64 0)).set (.int .i64 5)).cell
        simp [results, Try.f27, go_sem, h4, h5]
      · exact (((hBA.trans (hb1.mono (by omega))).trans (hb13.mono (by omega))).setCell (p := ⟨w.heap.size + 1, 0, none⟩) (by show w.heap.size ≤ w.heap.size + 1; omega) _).setCell (p := ⟨w.heap.size + 1 + 1, 0, none⟩) (by show w.heap.size ≤ w.heap.size + 1 + 1; omega) _
    | true =>
      have hr := H'.out
      simp only [if_true, Option.some.injEq, Prod.mk.injEq] at hr
      obtain ⟨hrA, rfl⟩ := hr
      have HR := Aside0.mk hrA
      clear hrA H'
      gi_wp2_with (first | (refine ⟨trivial, ?_⟩; gi_at_call 22; (try rw [hwA]); refine (callsIn_wide.2 (geo_Simple.calls k A0 c0 l0 0 wA (Kd.C_below HR0.out hBA) HC0.out HE.out)).mono ?_; rintro e_ w1 ⟨rfl, hb1⟩; have hs1 := hb1.size; have bP1 := bP.below hb1 (by omega); have bR1 := Boxed.below bR hb1 (by omega); have bE1 := Boxed.below bE hb1 (by omega); have cp0 := bP1.c0; have cp1 := bP1.c1; have cr := bR1.cell; have fr := bR1.frozen; have ce := bE1.cell; have fe := bE1.frozen) | (refine ⟨trivial, ?_⟩; gi_at_call 34; refine (callsIn_wide.2 (geo_fits.calls _ _ [(⟨p, q⟩ : S23)] true _ (one_point (Boxed2.new w1 p q)) (Nat.le_refl _) HFB.out)).mono ?_; clear cp0 cp1 cr fr ce fe; rintro e_ w3 ⟨rfl, hb3⟩; have hs3 := hb3.size; rw [World.size_alloc] at hs3; have hb13 : Below w1.heap.size w1 w3 := ((Below.refl _ w1).alloc (Nat.le_refl _) _).trans (hb3.mono (by simp)); have bP3 := bP1.below hb13 (by omega); have bR3 := Boxed.below bR1 hb13 (by omega); have bE3 := Boxed.below bE1 hb13 (by omega); have cp0 := bP3.c0; have cp1 := bP3.c1; have cr := bR3.cell; have fr := bR3.frozen; have ce := bE3.cell; have fe := bE3.frozen) | (refine ⟨trivial, ?_⟩; gi_at_call 43; refine (sides_in Fence.wide _ trivial rfl _ _ _ _).mono ?_; rintro e w2 ⟨rfl, rfl⟩))
      obtain ⟨b, off, rfl, hb, hp⟩ := pts_of HR0.out (by omega)
      have bW := (Boxed.new w3 3 (.int .i64 0)).alloc (.cells #[.slice (some ⟨b, off, none⟩) l0.length c0] 35)
      have bS := Boxed.new (w3.alloc (.cells #[.int .i64 0] 3)) 35 (.slice (some ⟨b, off, none⟩) l0.length c0)
      simp only [World.size_alloc] at bS
      have hB3 : Below w.heap.size w w3 := (hBA.trans (hb1.mono (by omega))).trans (hb13.mono (by omega))
      have hB2 : Below w.heap.size w ((w3.alloc (.cells #[.int .i64 0] 3)).alloc (.cells #[.slice (some ⟨b, off, none⟩) l0.length c0] 35)) := (hB3.alloc (by omega) _).alloc (by simp; omega) _
      have hz2 : ((w3.alloc (.cells #[.int .i64 0] 3)).alloc (.cells #[.slice (some ⟨b, off, none⟩) l0.length c0] 35)).heap.size = w3.heap.size + 2 := by simp
      have bP4 := (bP3.alloc (.cells #[.int .i64 0] 3)).alloc (.cells #[.slice (some ⟨b, off, none⟩) l0.length c0] 35)
      have bR4 := (bR3.alloc (.cells #[.int .i64 0] 3)).alloc (.cells #[.slice (some ⟨b, off, none⟩) l0.length c0] 35)
      have bE4 := (bE3.alloc (.cells #[.int .i64 0] 3)).alloc (.cells #[.slice (some ⟨b, off, none⟩) l0.length c0] 35)
      obtain ⟨w2, hw2⟩ : ∃ w2, (w3.alloc (.cells #[.int .i64 0] 3)).alloc (.cells #[.slice (some ⟨b, off, none⟩) l0.length c0] 35) = w2 := ⟨_, rfl⟩
      rw [hw2] at bW bS hB2 hz2 bP4 bR4 bE4 ⊢
      refine wpIn_rangeFunc_ownH rfl (by decide) (gf := 55) (lb := #[.pointer (some ⟨w3.heap.size + 1, 0, none⟩)]) rfl trivial (enters_of Try.func55 (by kernel_rfl) rfl)
        (sides_stops Fence.wide 8 trivial rfl (by decide) (w3.heap.size + 1) w.heap.size b off c0 l0 (by omega) (by omega) w2 (by omega) hb (by omega) bS.cell (hp.below hb hB2)) (fun h k => h.trans k) (KpS.put (by omega) (by omega)) (Below.refl _ _) (fun _ => rfl)
        (SideI w w3.heap.size p q) (SideX w p q)
        (OwnFrom.and (Own.from (fun s A B row hs hg hr => ⟨hs.1, boxed_own w3.heap.size 3 (fun pre => Value.int .i64 (winds p q pre)) s A B row hs.2.1 hg hr, boxed2_kept hg hr hs.2.2.1, boxed_own (w.heap.size + 1) 3 (fun (_ : Unit) => Value.int .i64 0) () A B row hs.2.2.2.1 hg hr, boxed_own (w.heap.size + 1 + 1) 24 (fun (_ : Unit) => Value.int .i64 0) () A B row hs.2.2.2.2 hg hr⟩) _) (ownFrom_below (Nat.le_refl _) (by omega)))
        (fun c => OwnFrom.and (Own.from (fun s A B row hs hg hr => ⟨hs.1, hs.2.1, boxed_own (w.heap.size + 1) 3 (fun (_ : Unit) => Value.int .i64 0) () A B row hs.2.2.1 hg hr, boxed_own (w.heap.size + 1 + 1) 24 (fun (_ : Unit) => Value.int .i64 0) () A B row hs.2.2.2 hg hr⟩) _) (ownFrom_below (Nat.le_refl _) (by omega)))
        ⟨⟨⟨rfl⟩, bW, bP4, bR4, bE4⟩, hB2⟩
        (fun x a' W => ∃ B1 B2, Boxed2 W B1 x.1.f0 x.1.f1 ∧ Boxed2 W B2 x.2.f0 x.2.f1 ∧ a' = { tmps := #[.slice (some ⟨b, off, none⟩) l0.length c0, .agg #[.int .i64 p, .int .i64 q], undef, .pointer (some ⟨w.heap.size, 0, none⟩), .pointer (some ⟨w.heap.size + 1, 0, none⟩), .pointer (some ⟨w.heap.size + 1 + 1, 0, none⟩), .int .i64 0, .pointer (some ⟨w3.heap.size, 0, none⟩), .pointer (some ⟨B1, 0, none⟩), .pointer (some ⟨B2, 0, none⟩), undef, .slice (some ⟨b, off, none⟩) l0.length c0, .int .i64 0, .int .i64 0, .bool false, undef, .agg #[.int .i64 p, .int .i64 q], .slice (some ⟨w1.heap.size, 0, none⟩) 1 1, .bool true, .bool false, .slice (some ⟨b, off, none⟩) l0.length c0, .func (.func 55) #[] #[.pointer (some ⟨w3.heap.size + 1, 0, none⟩)], aggP x.1, aggP x.2, undef, undef, undef, undef, undef, undef, undef, undef, undef, undef, undef, undef, undef, undef, undef, undef, undef, undef, undef, undef, undef, undef, undef, undef, undef, undef, undef, undef, undef, undef, undef, undef, undef, undef, undef, undef, undef, undef, undef, undef, undef, undef, undef, undef, undef, undef, undef, undef, undef, undef, undef, undef, undef, undef, undef, undef, undef, undef, undef, undef, undef, undef, undef, undef, undef, undef, undef, undef], defers := [] })
        (fun x a' _ X Y row hs hg hr => by
          obtain ⟨B1, B2, h3, h4, h5⟩ := hs
          exact ⟨B1, B2, boxed2_kept hg (fun r e => (hr r e).2) h3, boxed2_kept hg (fun r e => (hr r e).2) h4, h5⟩)
        ?assign ?body ?done ?stop
      case assign =>
        rintro l pre x W K ⟨⟨ht, bW1, bP1_, bR1_, bE1_⟩, hBW⟩ hK
        dsimp only [encS, aggP]
        gi_wp2
        exact hK _ _ (((KeepsOthers.alloc _ _).trans (KeepsOthers.alloc _ _)).from _) ((KpS.alloc hBW.size _).trans (KpS.alloc (by have := hBW.size; simp; omega) _)) ⟨⟨ht, (bW1.alloc _).alloc _, (bP1_.alloc _).alloc _, (bR1_.alloc _).alloc _, (bE1_.alloc _).alloc _⟩, (hBW.alloc hBW.size _).alloc (by have := hBW.size; simp; omega) _⟩
          ⟨W.heap.size, W.heap.size + 1, (Boxed2.new _ _ _).alloc _, by have := Boxed2.new (W.alloc (.cells #[.int .i64 x.1.f0, .int .i64 x.1.f1] 23)) x.2.f0 x.2.f1; rwa [World.size_alloc] at this, rfl⟩
      case body =>
        rintro l pre x a' W hl hr2 ⟨⟨ht, bW1, bP1_, bR1_, bE1_⟩, hBW⟩ ⟨B1, B2, h3, h4, rfl⟩ hlt
        have st : SideSt W w.heap.size w3.heap.size p q (winds p q pre) B1 B2 x := ⟨bP1_, bR1_, bE1_, bW1, h3, h4⟩
        have cp0 := st.bP.c0
        have cp1 := st.bP.c1
        have cr := st.bR.cell
        have fr := st.bR.frozen
        have ce := st.bE.cell
        have fe := st.bE.frozen
        have cw := st.bW.cell
        have fw := st.bW.frozen
        have x0 := st.b1.c0
        have x1 := st.b1.c1
        have x2 := st.b2.c0
        have x3 := st.b2.c1
        have hO1 := fun W_ => geo_over.calls x.1.f0 x.2.f0 p p _ W_ (over_some _ _ _ _)
        have hO2 := fun W_ => geo_over.calls x.1.f1 x.2.f1 q q _ W_ (over_some _ _ _ _)
        gi_wp2_with (first | (refine ⟨trivial, ?_⟩; gi_at_call 35; refine (CallsIn.inRound l (callsIn_wide.2 (geo_turn.calls x.1.f0 x.1.f1 x.2.f0 x.2.f1 p q _ _ (turn_some _ _ _ _ _ _)))).mono ?_; rintro e4 w4 ⟨rfl, hb4⟩; clear cp0 cp1 cr fr ce fe cw fw x0 x1 x2 x3; have st4 := st.below hb4; have hW4 := hb4; have hB4 := hBW.trans (hb4.mono hBW.size); have cp0 := st4.bP.c0; have cp1 := st4.bP.c1; have cr := st4.bR.cell; have fr := st4.bR.frozen; have ce := st4.bE.cell; have fe := st4.bE.frozen; have cw := st4.bW.cell; have fw := st4.bW.frozen; have x0 := st4.b1.c0; have x1 := st4.b1.c1; have x2 := st4.b2.c0; have x3 := st4.b2.c1) | (refine ⟨trivial, ?_⟩; gi_at_call 47; refine (CallsIn.inRound l (callsIn_wide.2 (hO1 w4))).mono ?_; clear hO1; rintro e5 w5 ⟨rfl, hb5⟩; clear cp0 cp1 cr fr ce fe cw fw x0 x1 x2 x3; have st5 := st4.below hb5; have hW5 := hW4.trans (hb5.mono hb4.size); have hB5 := hB4.trans (hb5.mono hB4.size); have cp0 := st5.bP.c0; have cp1 := st5.bP.c1; have cr := st5.bR.cell; have fr := st5.bR.frozen; have ce := st5.bE.cell; have fe := st5.bE.frozen; have cw := st5.bW.cell; have fw := st5.bW.frozen; have x0 := st5.b1.c0; have x1 := st5.b1.c1; have x2 := st5.b2.c0; have x3 := st5.b2.c1) | (refine ⟨trivial, ?_⟩; gi_at_call 47; refine (CallsIn.inRound l (callsIn_wide.2 (hO2 w5))).mono ?_; clear hO2; rintro e6 w6 ⟨rfl, hb6⟩; clear cp0 cp1 cr fr ce fe cw fw x0 x1 x2 x3; have st6 := st5.below hb6; have hW6 := hW5.trans (hb6.mono (Nat.le_trans hb4.size hb5.size)); have hB6 := hB5.trans (hb6.mono hB5.size); have cp0 := st6.bP.c0; have cp1 := st6.bP.c1; have cr := st6.bR.cell; have fr := st6.bR.frozen; have ce := st6.bE.cell; have fe := st6.bE.frozen; have cw := st6.bW.cell; have fw := st6.bW.frozen; have x0 := st6.b1.c0; have x1 := st6.b1.c1; have x2 := st6.b2.c0; have x3 := st6.b2.c1) | (refine ⟨trivial, ?_⟩))
        all_goals first
          | exact side_leave st6 hB6 hW6 (by simp [onSide, turnP, *])
          | exact side_step st4 hB4 hW4 hBW.size ht.out (by omega) (by omega) (by simp [onSide, turnP, *]) (by unfold wind turnP; first | rw [if_pos (by omega)] | rw [if_neg (by omega), if_pos (by omega)])
          | exact side_stay st6 hB6 hW6 hBW.size ht.out (by simp [onSide, turnP, *]) (by unfold wind turnP; rw [if_neg (by omega), if_neg (by omega)])
          | exact side_stay st5 hB5 hW5 hBW.size ht.out (by simp [onSide, turnP, *]) (by unfold wind turnP; rw [if_neg (by omega), if_neg (by omega)])
          | exact side_stay st4 hB4 hW4 hBW.size ht.out (by simp [onSide, turnP, *]) (by unfold wind turnP; rw [if_neg (by omega), if_neg (by omega)])
      case done =>
        rintro D ys W hD rfl ⟨⟨ht, bW1, bP1_, bR1_, bE1_⟩, hBW⟩ hK
        have hr1 := HR.out
        simp only [sideV, ht.out, Bool.false_eq_true, if_false] at hr1
        have cw := bW1.cell
        have cr := bR1_.cell
        have fr := bR1_.frozen
        have ce := bE1_.cell
        have fe := bE1_.frozen
        by_cases hw0 : winds p q (upt l0 l0.length) = 0
        · have hwb : decide (winds p q (upt l0 l0.length) = 0) = true := decide_eq_true hw0
          rw [if_pos hw0] at hr1
          subst hr1
          gi_wp2
          have hK' := (KeepsOthers.setCell (W.setCell ⟨w.heap.size + 1, 0, none⟩ (.int .i64 (-1))) ⟨w.heap.size + 1 + 1, 0, none⟩ (.int .i64 0)).same D _ ((KeepsOthers.setCell W ⟨w.heap.size + 1, 0, none⟩ (.int .i64 (-1))).same D _ hK rfl) rfl
          refine ⟨by simp, .inl ⟨_, _, rfl, run_takeDeferred hK', ?_⟩⟩
          have h4 := cell_kept ((bR1_.set (.int .i64 (-1))).other (B' := w.heap.size + 1 + 1) (by omega) (.int .i64 0)).cell (grownBy_putObj' _ D (.deferred none)) (fun r e => by cases e; exact ⟨_, hK', rfl⟩)
          have h5 := cell_kept ((bE1_.other (B' := w.heap.size + 1) (by omega) (.int .i64 (-1))).set (.int .i64 0)).cell (grownBy_putObj' _ D (.deferred none)) (fun r e => by cases e; exact ⟨_, hK', rfl⟩)
          refine ⟨.tuple #[.int .i64 (-1), .int .i64 0], ?_, rfl, (((hBW.setCell (p := ⟨w.heap.size + 1, 0, none⟩) (by show w.heap.size ≤ w.heap.size + 1; omega) _).setCell (p := ⟨w.heap.size + 1 + 1, 0, none⟩) (by show w.heap.size ≤ w.heap.size + 1 + 1; omega) _)).trans (belowK_b (w := w) (Nat.le_refl _) _ D _ _ (by omega) hK' rfl rfl)⟩
          simp [results, Try.f27, go_sem, h4, h5]
        · have hwb : decide (winds p q (upt l0 l0.length) = 0) = false := decide_eq_false hw0
          rw [if_neg hw0] at hr1
          subst hr1
          gi_wp2
          have hK' := (KeepsOthers.setCell (W.setCell ⟨w.heap.size + 1, 0, none⟩ (.int .i64 (1))) ⟨w.heap.size + 1 + 1, 0, none⟩ (.int .i64 0)).same D _ ((KeepsOthers.setCell W ⟨w.heap.size + 1, 0, none⟩ (.int .i64 (1))).same D _ hK rfl) rfl
          refine ⟨by simp, .inl ⟨_, _, rfl, run_takeDeferred hK', ?_⟩⟩
          have h4 := cell_kept ((bR1_.set (.int .i64 (1))).other (B' := w.heap.size + 1 + 1) (by omega) (.int .i64 0)).cell (grownBy_putObj' _ D (.deferred none)) (fun r e => by cases e; exact ⟨_, hK', rfl⟩)
          have h5 := cell_kept ((bE1_.other (B' := w.heap.size + 1) (by omega) (.int .i64 (1))).set (.int .i64 0)).cell (grownBy_putObj' _ D (.deferred none)) (fun r e => by cases e; exact ⟨_, hK', rfl⟩)
          refine ⟨.tuple #[.int .i64 (1), .int .i64 0], ?_, rfl, (((hBW.setCell (p := ⟨w.heap.size + 1, 0, none⟩) (by show w.heap.size ≤ w.heap.size + 1; omega) _).setCell (p := ⟨w.heap.size + 1 + 1, 0, none⟩) (by show w.heap.size ≤ w.heap.size + 1 + 1; omega) _)).trans (belowK_b (w := w) (Nat.le_refl _) _ D _ _ (by omega) hK' rfl rfl)⟩
          simp [results, Try.f27, go_sem, h4, h5]
      case stop =>
        rintro D c pre W hD ⟨kk, hkk, rfl⟩ ⟨⟨rfl, ht, bR1_, bE1_⟩, hBW⟩ hK
        have hr1 := HR.out
        rw [sideV, if_pos (upt_any_le hkk ht.out)] at hr1
        subst hr1
        gi_wp2
        refine ⟨by simp, .inl ⟨_, _, rfl, run_takeDeferred hK, ?_⟩⟩
        have h4 := cell_kept bR1_.cell (grownBy_putObj' _ D (.deferred none)) (fun r e => by cases e; exact ⟨_, hK, rfl⟩)
        have h5 := cell_kept bE1_.cell (grownBy_putObj' _ D (.deferred none)) (fun r e => by cases e; exact ⟨_, hK, rfl⟩)
        refine ⟨.tuple #[.int .i64 0, .int .i64 0], ?_, rfl, hBW.trans (belowK_b (w := w) (Nat.le_refl _) W D _ _ (by omega) hK rfl rfl)⟩
        simp [results, Try.f27, go_sem, h4, h5]
  · have c1b : (e != 0) = true := by simp [c1]
    have hr := H.out
    rw [if_neg c1] at hr
    simp only [Option.some.injEq, Prod.mk.injEq] at hr
    obtain ⟨rfl, rfl⟩ := hr
    gi_wp2_with (refine ⟨trivial, ?_⟩; gi_at_call 22; (try rw [hwA]); refine (callsIn_wide.2 (geo_Simple.calls k A0 c0 l0 e wA (Kd.C_below HR0.out hBA) HC0.out HE.out)).mono ?_; rintro e_ w1 ⟨rfl, hb1⟩; have hs1 := hb1.size; have bP1 := bP.below hb1 (by omega); have bR1 := Boxed.below bR hb1 (by omega); have bE1 := Boxed.below bE hb1 (by omega); have cp0 := bP1.c0; have cp1 := bP1.c1; have cr := bR1.cell; have fr := bR1.frozen; have ce := bE1.cell; have fe := bE1.frozen)
    refine ⟨.tuple #[.int .i64 0, .int .i64 e], ?_, rfl, ?_⟩
    · have h4 := ((bR1.set (.int .i64 0)).other (B' := w.heap.size + 1 + 1) (by omega) (.int .i64 e)).cell
      have h5 := ((bE1.other (B' := w.heap.size + 1) (by omega) (.int .i64 0)).set (.int .i64 e)).cell
      simp [results, Try.f27, go_sem, h4, h5]
    · exact ((hBA.trans (hb1.mono (by omega))).setCell (p := ⟨w.heap.size + 1, 0, none⟩) (by show w.heap.size ≤ w.heap.size + 1; omega) _).setCell (p := ⟨w.heap.size + 1 + 1, 0, none⟩) (by show w.heap.size ≤ w.heap.size + 1 + 1; omega) _
end Go.Proofs.Ytannklfnfacpeaa.X
