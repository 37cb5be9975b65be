/- The contract of the law MsgsDecodes, where all is as it says. -/
import Derived.Test.YteleiocdjcdgcaaXHApart
import Derived.Test.YteleiocdjcdgcaaXx5
import Derived.Test.YteleiocdjcdgcaaXx7
import Derived.Test.YteleiocdjcdgcaaXx6
import Derived.Test.YteleiocdjcdgcaaXx6
namespace Go.Proofs.Yteleiocdjcdgcaa.X
open Go.RowKit Go.Proofs.YteleiocdjcdgcaaW.PrintWords Go.Proofs.YteleiocdjcdgcaaW.PrintLast Go.Proofs.YteleiocdjcdgcaaW.PrintMore Go.Proofs.Yteleiocdjcdgcaa.HKit
set_option linter.unusedVariables false
set_option linter.unusedSimpArgs false
theorem keepA {W : World} {o x : Obj} {g : Nat} (h : W.heap[g]? = some x) : (W.alloc o).heap[g]? = some x := (Below.heap_alloc _ _ _ (Array.getElem?_eq_some_iff.1 h).1).trans h
theorem cellA {W : World} {B j : Nat} {cs : Array Value} {t : TypeId} {v : Value} (h : W.heap[B]? = some (.cells cs t (0, 0))) (hv : cs[j]? = some v) : W.cell? ⟨B, j, none⟩ = some v := by
  simp [World.cell?, h, hv]
theorem RowI.of_R {W : World} {base c : Nat} {A : Option Addr} {ok : Nat → Prop} {l : List Int} (h : Kd.R (Kd.int .i64) 3 W base ok (.slice A l.length c) l) : RowI W base A l.length c (fun t => l.getD t 0) := by
  have ho := R_own_int h
  rcases ho.2 with ⟨e, hn⟩ | ⟨g, cap, cur, e, h1, h2, h3, h4, h5, h6⟩
  · injection e with e1 e2 e3
    exact .inl ⟨e1, hn, e3⟩
  · injection e with e1 e2 e3
    subst e1
    subst e3
    refine .inr ⟨g, cur, rfl, h1, h2, h3, h4, by omega, fun t ht => ?_⟩
    have := congrArg (fun x => x[t]?) h6
    simp only [Nat.mul_one] at this
    rw [List.getElem?_take_of_lt ht, Array.getElem?_toList] at this
    rw [this]
    simp [nums, ht]
/-- All as the law says, or nothing. -/
def windhoverlaw05_MsgsDecodes.f (k : Nat) (f0 f1 : Int) (f2 : ByteArray) : Option Bool :=
  (msgs_Decode.f k f0 f1 f2).bind fun a => (windhoverref05_Decode.f k f0 f1 f2).bind fun b => (windhoverref05_Same.f k a.1 a.2.1 b.1 b.2.1).bind fun s => (windhoverlaw05_awake.f k).bind fun t => if (a.2.2 = b.2.2 ∧ s = true) ∧ (t = true ∧ a.2.1.length ≤ 1000000) then some true else none
theorem windhoverlaw05_MsgsDecodes.mono : ∀ a0 a1 a2 k, LeO (windhoverlaw05_MsgsDecodes.f k a0 a1 a2) (windhoverlaw05_MsgsDecodes.f (k + 1) a0 a1 a2) := by
  intro a0 a1 a2 k
  unfold windhoverlaw05_MsgsDecodes.f
  exact LeO.bind (msgs_Decode.mono _ _ _ _) fun a => LeO.bind (windhoverref05_Decode.mono _ _ _ _) fun b => LeO.bind (windhoverref05_Same.mono _ _ _ _ _) fun s => LeO.bind (windhoverlaw05_awake.mono _) fun t => LeO.refl _
set_option maxRecDepth 100000 in
set_option maxHeartbeats 8000000 in
theorem decodes_true (k : Nat) (f0 f1 : Int) (f2 : ByteArray) (m : Int) (l : List Int) (e : Int) (m' : Int) (l' : List Int) (w : World) (h1 : msgs_Decode.f k f0 f1 f2 = some (m, l, e)) (h2 : windhoverref05_Decode.f k f0 f1 f2 = some (m', l', e))
    (h3 : windhoverref05_Same.f k m l m' l' = some true) (h4 : windhoverlaw05_awake.f k = some true) (hl : l.length ≤ 1000000) :
    Calls Try.prog 4 #[.agg #[.int .i64 f0, .int .i64 f1, .string f2]] w fun e w' => e = .returned (.bool true) ∧ Below w.heap.size w w' := by
  have H1 := Aside0.mk h1
  have H2 := Aside0.mk h2
  have H3 := Aside0.mk h3
  have H4 := Aside0.mk h4
  have HL := Aside0.mk hl
  clear h1 h2 h3 h4 hl
  have F0 : (w.alloc (.cells #[.int .i64 f0, .int .i64 f1, .string f2] 28)).heap[w.heap.size]? = some (.cells #[.int .i64 f0, .int .i64 f1, .string f2] 28) := heap_at _ _ _ rfl
  have z0 : (w.alloc (.cells #[.int .i64 f0, .int .i64 f1, .string f2] 28)).heap.size = w.heap.size + 1 := by simp
  go_enter Try.func4, Try.ntmps4
  go_wp2_with (go_at_call 13; refine (msgs_Decode.calls k f0 f1 f2 m l e _ H1.out).mono ?_; rintro e_ w1 ⟨v1, rfl, hr1, hb1⟩; refine Aside0.out ?_)
  constructor
  obtain ⟨A1, c1, rfl⟩ := Kd.R_slice hr1
  have R1 := Aside0.mk hr1
  have B1 := Aside0.mk hb1
  have s1 := hb1.size
  have F1 := keepA (o := (.cells #[.int .u8 m, .slice A1 l.length c1] 25)) ((hb1.block w.heap.size (by omega)).trans F0)
  have M1 : (w1.alloc (.cells #[.int .u8 m, .slice A1 l.length c1] 25)).heap[w1.heap.size]? = some (.cells #[.int .u8 m, .slice A1 l.length c1] 25) := heap_at _ _ _ rfl
  have z1 : (w1.alloc (.cells #[.int .u8 m, .slice A1 l.length c1] 25)).heap.size = w1.heap.size + 1 := by simp
  have x0 := cellA (j := 0) F1 rfl
  have x1 := cellA (j := 1) F1 rfl
  have x2 := cellA (j := 2) F1 rfl
  clear hr1 hb1 F0
  go_wp2_with (go_at_call 13; refine (msgs_Decode.calls k f0 f1 f2 m l e _ H1.out).mono ?_; rintro e_ w2 ⟨v2, rfl, hr2, hb2⟩; refine Aside0.out ?_)
  constructor
  obtain ⟨A2, c2, rfl⟩ := Kd.R_slice hr2
  have R2 := Aside0.mk hr2
  have B2 := Aside0.mk hb2
  have s2 := hb2.size
  have F2 := keepA (o := (.cells #[.int .u8 m, .slice A2 l.length c2] 25)) ((hb2.block w.heap.size (by omega)).trans F1)
  have M12 := keepA (o := (.cells #[.int .u8 m, .slice A2 l.length c2] 25)) ((hb2.block w1.heap.size (by omega)).trans M1)
  have M2 : (w2.alloc (.cells #[.int .u8 m, .slice A2 l.length c2] 25)).heap[w2.heap.size]? = some (.cells #[.int .u8 m, .slice A2 l.length c2] 25) := heap_at _ _ _ rfl
  have z2 : (w2.alloc (.cells #[.int .u8 m, .slice A2 l.length c2] 25)).heap.size = w2.heap.size + 1 := by simp
  clear x0 x1 x2 F1 M1 hr2 hb2
  have x0 := cellA (j := 0) F2 rfl
  have x1 := cellA (j := 1) F2 rfl
  have x2 := cellA (j := 2) F2 rfl
  go_wp2_with (go_at_call 14; refine (windhoverref05_Decode.calls k f0 f1 f2 m' l' e _ H2.out).mono ?_; rintro e_ w3 ⟨v3, rfl, hr3, hb3⟩; refine Aside0.out ?_)
  constructor
  obtain ⟨A3, c3, rfl⟩ := Kd.R_slice hr3
  have R3 := Aside0.mk hr3
  have B3 := Aside0.mk hb3
  have s3 := hb3.size
  have M13 := keepA (o := (.cells #[.int .u8 m', .slice A3 l'.length c3] 25)) ((hb3.block w1.heap.size (by omega)).trans M12)
  have M23 := keepA (o := (.cells #[.int .u8 m', .slice A3 l'.length c3] 25)) ((hb3.block w2.heap.size (by omega)).trans M2)
  have M3 : (w3.alloc (.cells #[.int .u8 m', .slice A3 l'.length c3] 25)).heap[w3.heap.size]? = some (.cells #[.int .u8 m', .slice A3 l'.length c3] 25) := heap_at _ _ _ rfl
  have z3 : (w3.alloc (.cells #[.int .u8 m', .slice A3 l'.length c3] 25)).heap.size = w3.heap.size + 1 := by simp
  clear x0 x1 x2 F2 M12 M2 hr3 hb3
  have K1 : Below w1.heap.size w1 (w3.alloc (.cells #[.int .u8 m', .slice A3 l'.length c3] 25)) := ((((Below.refl _ w1).alloc (Nat.le_refl _) _).trans (B2.out.mono (by omega))).alloc (by omega) _).trans ((B3.out.mono (by omega)).alloc (by omega) _)
  have K2 : Below w2.heap.size w2 (w3.alloc (.cells #[.int .u8 m', .slice A3 l'.length c3] 25)) := ((Below.refl _ w2).alloc (Nat.le_refl _) _).trans ((B3.out.mono (by omega)).alloc (by omega) _)
  have K3 : Below w3.heap.size w3 (w3.alloc (.cells #[.int .u8 m', .slice A3 l'.length c3] 25)) := (Below.refl _ w3).alloc (Nat.le_refl _) _
  have Q1 := Aside0.mk (Kd.R_below R1.out K1)
  have Q2 := Aside0.mk (Kd.R_below R2.out K2)
  have Q3 := Aside0.mk (Kd.R_below R3.out K3)
  have y0 := cellA (j := 0) M13 rfl
  have y1 := cellA (j := 1) M13 rfl
  have y2 := cellA (j := 0) M23 rfl
  have y3 := cellA (j := 1) M23 rfl
  have y4 := cellA (j := 0) M3 rfl
  have y5 := cellA (j := 1) M3 rfl
  go_wp2_with (go_at_call 15; refine (windhoverref05_Same.calls k m A1 c1 l m' A3 c3 l' true _ (Kd.R_reads' Q1.out).2.2 (Kd.R_reads' Q1.out).2.1 (Kd.R_reads' Q3.out).2.2 (Kd.R_reads' Q3.out).2.1 H3.out).mono ?_; rintro e_ w4 ⟨rfl, hb4⟩; refine Aside0.out ?_)
  constructor
  have B4 := Aside0.mk hb4
  have s4 := hb4.size
  have N1 := (hb4.block w1.heap.size (by omega)).trans M13
  have N2 := (hb4.block w2.heap.size (by omega)).trans M23
  have N3 := (hb4.block w3.heap.size (by omega)).trans M3
  clear y0 y1 y2 y3 y4 y5 M13 M23 M3 hb4
  have y0 := cellA (j := 0) N1 rfl
  have y1 := cellA (j := 1) N1 rfl
  have y2 := cellA (j := 0) N2 rfl
  have y3 := cellA (j := 1) N2 rfl
  have y4 := cellA (j := 0) N3 rfl
  have y5 := cellA (j := 1) N3 rfl
  have P1 := Aside0.mk (K1.trans (B4.out.mono (by omega)))
  have P2 := Aside0.mk (K2.trans (B4.out.mono (by omega)))
  have P3 := Aside0.mk (K3.trans (B4.out.mono (by omega)))
  clear K1 K2 K3
  have T2 := Aside0.mk (Kd.R_below R2.out P2.out)
  have T3 := Aside0.mk (Kd.R_below R3.out P3.out)
  go_wp2_with (go_at_call 15; refine (windhoverref05_Same.calls k m A2 c2 l m' A3 c3 l' true _ (Kd.R_reads' T2.out).2.2 (Kd.R_reads' T2.out).2.1 (Kd.R_reads' T3.out).2.2 (Kd.R_reads' T3.out).2.1 H3.out).mono ?_; rintro e_ w5 ⟨rfl, hb5⟩; refine Aside0.out ?_)
  constructor
  have B5 := Aside0.mk hb5
  have s5 := hb5.size
  have L1 := (hb5.block w1.heap.size (by omega)).trans N1
  have L2 := (hb5.block w2.heap.size (by omega)).trans N2
  clear y0 y1 y2 y3 y4 y5 N1 N2 N3 hb5
  go_wp2_with (go_at_call 11; refine (windhoverlaw05_awake.calls k true _ H4.out).mono ?_; rintro e_ w6 ⟨rfl, hb6⟩; refine Aside0.out ?_)
  constructor
  have s6 := hb6.size
  have O1 := (hb6.block w1.heap.size (by omega)).trans L1
  have O2 := (hb6.block w2.heap.size (by omega)).trans L2
  have y1 := cellA (j := 1) O1 rfl
  have y3 := cellA (j := 1) O2 rfl
  have V1 : Below w1.heap.size w1 w6 := (P1.out.trans (B5.out.mono (by omega))).trans (hb6.mono (by omega))
  have V2 : Below w2.heap.size w2 w6 := (P2.out.trans (B5.out.mono (by omega))).trans (hb6.mono (by omega))
  have U1 := RowI.of_R (Kd.R_lower R1.out (show w.heap.size ≤ _ by omega))
  have U2' := RowI.of_R R2.out
  have U2 := RowI.of_R (Kd.R_lower R2.out (show w.heap.size ≤ _ by omega))
  have X1 := U1.keep (W' := w6) fun g hg => V1.block g (U1.lt g hg).2
  have X2 := U2.keep (W' := w6) fun g hg => V2.block g (U2.lt g hg).2
  have hT : Two w.heap.size w6.heap.size 0 (fun j => if j = 0 then A1 else A2) (fun _ => l.length) (fun j => if j = 0 then c1 else c2) (w6.alloc (.cells #[.slice A1 l.length c1, .slice A2 l.length c2] 23)) := by
    refine ⟨by omega, by simp, fun j hj => ?_, fun j hj => ?_, fun j hj => ?_, fun g h1 h2 => ?_, fun j hj => HL.out⟩
    · have h := heap_at w6 (.cells #[.slice A1 l.length c1, .slice A2 l.length c2] 23) _ rfl
      have : j = 0 ∨ j = 1 := by omega
      rcases this with rfl | rfl
      · exact cellA (j := 0 + 0) h rfl
      · exact cellA (j := 0 + 1) h rfl
    · have : j = 0 ∨ j = 1 := by omega
      rcases this with rfl | rfl
      · exact ⟨_, X1.keep fun g hg => Below.heap_alloc _ _ _ (X1.lt g hg).2⟩
      · exact ⟨_, X2.keep fun g hg => Below.heap_alloc _ _ _ (X2.lt g hg).2⟩
    · have : j = 0 ∨ j = 1 := by omega
      rcases this with rfl | rfl
      · exact fun e => by have := (X1.lt _ e).2; omega
      · exact fun e => by have := (X2.lt _ e).2; omega
    · have g1 := (U1.lt g h1).2
      have g2 := (U2'.lt g h2).1
      omega
  have HT := Aside0.mk hT
  have HB : Aside0 (Below w.heap.size w (w6.alloc (.cells #[.slice A1 l.length c1, .slice A2 l.length c2] 23))) := ⟨by
    have a0 : Below w.heap.size w (w.alloc (.cells #[.int .i64 f0, .int .i64 f1, .string f2] 28)) := (Below.refl _ w).alloc (Nat.le_refl _) _
    exact ((a0.trans (B1.out.mono (by omega))).trans (V1.mono (by omega))).alloc (by omega) _⟩
  clear hT U1 U2 U2' X1 X2 V1 V2 hb6 L1 L2 O1 O2
  go_wp2_with (go_at_call 16; refine (apart_two w6.heap.size 0 2 w.heap.size _ _ _ _ HT.out (Nat.le_refl _)).mono ?_; rintro e_ w8 ⟨rfl, hb8⟩)
  go_ret
  exact ⟨rfl, HB.out.trans hb8⟩
theorem windhoverlaw05_MsgsDecodes.calls (k : Nat) (a0_0 : Int) (a0_1 : Int) (a0_2 : ByteArray) (r : Bool) (w : World) (h : windhoverlaw05_MsgsDecodes.f k a0_0 a0_1 a0_2 = some r) :
    Calls Try.prog 4 #[.agg #[.int .i64 a0_0, .int .i64 a0_1, .string a0_2]] w fun e w' => e = .returned (.bool r) ∧ Below w.heap.size w w' := by
  unfold windhoverlaw05_MsgsDecodes.f at h
  obtain ⟨⟨m, l, e⟩, h1, hA⟩ := Option.bind_eq_some_iff.mp h
  obtain ⟨⟨m', l', e'⟩, h2, hB⟩ := Option.bind_eq_some_iff.mp hA
  obtain ⟨s, h3, hC⟩ := Option.bind_eq_some_iff.mp hB
  obtain ⟨t, h4, hD⟩ := Option.bind_eq_some_iff.mp hC
  clear h hA hB hC
  split at hD
  · rename_i hc
    obtain rfl := Option.some.inj hD
    obtain ⟨⟨he, hs⟩, ht, hl⟩ := hc
    have he' : e = e' := he
    subst he' hs ht
    exact decodes_true k a0_0 a0_1 a0_2 m l e m' l' w h1 h2 h3 h4 hl
  · cases hD
end Go.Proofs.Yteleiocdjcdgcaa.X
