/- The contract of geo.Area2: a sum over the polygon's sides. -/
import Derived.Test.YtannklfnfacpeaaXHSimple
namespace Go.Proofs.Ytannklfnfacpeaa.X
open Go.RowKit Go.Shelf Go.Proofs.YtannklfnfacpeaaW.PrintWords Go.Proofs.YtannklfnfacpeaaW.PrintLast Go.Proofs.YtannklfnfacpeaaW.PrintMore Go.Proofs.Ytannklfnfacpeaa.HKit
attribute [local go_sem] Oper.semAt_some
set_option linter.unusedVariables false
set_option linter.unusedSimpArgs false
def areaStep (s : Int) (x : S23 × S23) : Int := wrap64 (s + wrap64 (wrap64 (x.1.f0 * x.2.f1) - wrap64 (x.1.f1 * x.2.f0)))
def areaW (xs : List (S23 × S23)) : Int := xs.foldl areaStep 0
theorem areaW_snoc (pre : List (S23 × S23)) (x : S23 × S23) : areaW (pre ++ [x]) = wrap64 (areaW pre + wrap64 (wrap64 (x.1.f0 * x.2.f1) - wrap64 (x.1.f1 * x.2.f0))) := by simp [areaW, areaStep]
def geo_Area2.f (k : Nat) (l : List S23) : Option (Int × Int) := (geo_Simple.f k l).bind fun e => if e = 0 then some (areaW (upt l l.length), 0) else some (0, e)
theorem geo_Area2.mono : ∀ a0 k, LeO (geo_Area2.f k a0) (geo_Area2.f (k + 1) a0) := by
  intro a0 k
  unfold geo_Area2.f
  exact LeO.bind (geo_Simple.mono _ _) fun t => LeO.refl _
theorem simple_bound {k : Nat} {l : List S23} (h : geo_Simple.f k l = some 0) : 3 ≤ l.length ∧ l.length ≤ 64 := by
  unfold geo_Simple.f at h
  split at h
  · cases h
  · split at h
    · cases h
    · omega
set_option maxRecDepth 100000 in
set_option maxHeartbeats 4000000 in
theorem geo_Area2.calls (k : Nat) (A0 : Option Addr) (c0 : Nat) (l0 : List S23) (r1 : Int) (r2 : Int) (w : World) (hr0 : Kd.C k23 w A0 l0.length l0) (hc0 : l0.length ≤ c0) (h : geo_Area2.f k l0 = some (r1, r2)) :
    Calls Try.prog 23 #[.slice A0 l0.length c0] w fun e w' => e = .returned (.tuple #[.int .i64 r1, .int .i64 r2]) ∧ Below w.heap.size w w' := by
  have HR0 := Aside0.mk hr0
  have HC0 := Aside0.mk hc0
  unfold geo_Area2.f at h
  obtain ⟨e, he, h⟩ := Option.bind_eq_some_iff.mp h
  have HE := Aside0.mk he
  have H := Aside0.mk h
  clear hr0 hc0 h he
  refine (callsIn_wide (n := 9)).1 ?_
  refine callsIn_of_wp_marks Try.func23 rfl trivial ?_ rfl
  simp only [Try.ntmps23, List.size_toArray, List.length_cons, List.length_nil, Nat.reduceAdd, Nat.reduceSub, Array.replicate_succ, Array.replicate_zero, List.push_toArray, List.append_toArray, List.nil_append, List.cons_append]
  by_cases c1 : e = 0
  · subst c1
    have hr := H.out
    simp only [if_true, Option.some.injEq, Prod.mk.injEq] at hr
    obtain ⟨hr, rfl⟩ := hr
    have HR := Aside0.mk hr
    clear hr H
    have hbd := simple_bound HE.out
    gi_wp2_with (first | (refine ⟨trivial, ?_⟩; gi_at_call 22; refine (callsIn_wide.2 (geo_Simple.calls k A0 c0 l0 0 _ HR0.out HC0.out HE.out)).mono ?_; rintro e w1 ⟨rfl, hb1⟩) | (refine ⟨trivial, ?_⟩; gi_at_call 43; refine (sides_in Fence.wide _ trivial rfl _ _ _ _).mono ?_; rintro e w2 ⟨rfl, rfl⟩))
    obtain ⟨b, off, rfl, hb, hp⟩ := pts_of HR0.out (by omega)
    have bA := (Boxed.new w1 3 (.int .i64 0)).alloc (.cells #[.slice (some ⟨b, off, none⟩) l0.length c0] 35)
    have bS := Boxed.new (w1.alloc (.cells #[.int .i64 0] 3)) 35 (.slice (some ⟨b, off, none⟩) l0.length c0)
    simp only [World.size_alloc] at bS
    have hs1 := hb1.size
    have hB2 : Below w.heap.size w ((w1.alloc (.cells #[.int .i64 0] 3)).alloc (.cells #[.slice (some ⟨b, off, none⟩) l0.length c0] 35)) := (hb1.alloc (by omega) _).alloc (by simp; omega) _
    have hz2 : ((w1.alloc (.cells #[.int .i64 0] 3)).alloc (.cells #[.slice (some ⟨b, off, none⟩) l0.length c0] 35)).heap.size = w1.heap.size + 2 := by simp
    obtain ⟨w2, hw2⟩ : ∃ w2, (w1.alloc (.cells #[.int .i64 0] 3)).alloc (.cells #[.slice (some ⟨b, off, none⟩) l0.length c0] 35) = w2 := ⟨_, rfl⟩
    rw [hw2] at bA bS hB2 hz2 ⊢
    refine wpIn_rangeFunc_ownH rfl (by decide) (gf := 55) (lb := #[.pointer (some ⟨w1.heap.size + 1, 0, none⟩)]) rfl trivial (enters_of Try.func55 (by kernel_rfl) rfl)
      (sides_stops Fence.wide 8 trivial rfl (by decide) (w1.heap.size + 1) w.heap.size b off c0 l0 (by omega) (by omega) w2 (by omega) hb (by omega) bS.cell (hp.below hb hB2)) (fun h k => h.trans k) (KpS.put (by omega) (by omega)) (Below.refl _ _) (fun _ => rfl)
      (fun pre W => (Boxed W w1.heap.size 3 (.int .i64 (areaW pre))) ∧ Below w.heap.size w W)
      (fun c pre W => False)
      (OwnFrom.and (Own.from (boxed_own w1.heap.size 3 (fun pre => Value.int .i64 (areaW pre))) _) (ownFrom_below (Nat.le_refl _) (by omega)))
      (fun c s A B row hs hg hr => hs)
      ⟨bA, hB2⟩
      (fun x a' W => ∃ B1 B2, w1.heap.size ≠ B1 ∧ w1.heap.size ≠ B2 ∧ W.heap[B1]? = some (.cells #[.int .i64 x.1.f0, .int .i64 x.1.f1] 23 (0, 0)) ∧ W.heap[B2]? = some (.cells #[.int .i64 x.2.f0, .int .i64 x.2.f1] 23 (0, 0)) ∧ a' = { tmps := #[.slice (some ⟨b, off, none⟩) l0.length c0, undef, .int .i64 0, .int .i64 0, .int .i64 0, .pointer (some ⟨w1.heap.size, 0, none⟩), .pointer (some ⟨B1, 0, none⟩), .pointer (some ⟨B2, 0, none⟩), .slice (some ⟨b, off, none⟩) l0.length c0, .int .i64 0, .int .i64 0, .bool false, undef, .slice (some ⟨b, off, none⟩) l0.length c0, .func (.func 55) #[] #[.pointer (some ⟨w1.heap.size + 1, 0, none⟩)], aggP x.1, aggP x.2, undef, undef, undef, undef, undef, undef, undef, undef, undef, undef, undef, undef, undef, undef], defers := [] })
      (fun x a' _ X Y row hs hg hr => by
        obtain ⟨B1, B2, h1, h2, h3, h4, h5⟩ := hs
        exact ⟨B1, B2, h1, h2, (grownBy_keepsC hg (fun r e => (hr r e).2) h3).trans h3, (grownBy_keepsC hg (fun r e => (hr r e).2) h4).trans h4, h5⟩)
      ?assign ?body ?done ?stop
    case assign =>
      rintro l pre x W K ⟨bR1, hBW⟩ hK
      dsimp only [encS, aggP]
      gi_wp2
      exact hK _ _ (((KeepsOthers.alloc _ _).trans (KeepsOthers.alloc _ _)).from _) ((KpS.alloc hBW.size _).trans (KpS.alloc (by have := hBW.size; simp; omega) _)) ⟨(bR1.alloc _).alloc _, (hBW.alloc hBW.size _).alloc (by have := hBW.size; simp; omega) _⟩
        ⟨W.heap.size, W.heap.size + 1, Nat.ne_of_lt bR1.lt, by have := bR1.lt; omega, (Below.heap_alloc _ _ _ (by simp)).trans (World.alloc_heap_new W _), by have := World.alloc_heap_new (W.alloc (.cells #[.int .i64 x.1.f0, .int .i64 x.1.f1] 23)) (.cells #[.int .i64 x.2.f0, .int .i64 x.2.f1] 23); rwa [World.size_alloc] at this, rfl⟩
    case body =>
      rintro l pre x a' W hl hr2 ⟨bR1, hBW⟩ ⟨B1, B2, hn1, hn2, h3, h4, rfl⟩ hlt
      have x0 : W.cell? ⟨B1, 0, none⟩ = some (.int .i64 x.1.f0) := by simp [World.cell?, h3]
      have x1 : W.cell? ⟨B1, 1, none⟩ = some (.int .i64 x.1.f1) := by simp [World.cell?, h3]
      have x2 : W.cell? ⟨B2, 0, none⟩ = some (.int .i64 x.2.f0) := by simp [World.cell?, h4]
      have x3 : W.cell? ⟨B2, 1, none⟩ = some (.int .i64 x.2.f1) := by simp [World.cell?, h4]
      have cR1 := bR1.cell
      have fR1 := bR1.frozen
      gi_wp2
      refine ⟨(KeepsOthers.setCell _ _ _).from _, ⟨(Below.refl _ W).setCell (p := ⟨w1.heap.size, 0, none⟩) (by show w.heap.size ≤ w1.heap.size; omega) _, fun hb_ => Below.heap_setCell _ _ _ _ (by show w1.heap.size + 1 ≠ w1.heap.size; omega)⟩, ?_, hBW.setCell (p := ⟨w1.heap.size, 0, none⟩) (by show w.heap.size ≤ w1.heap.size; omega) _⟩
      rw [areaW_snoc]
      exact bR1.set _
    case done =>
      rintro D ys W hD rfl ⟨bR1, hBW⟩ hK
      have cR1 := bR1.cell
      gi_wp2
      refine ⟨by simp, .inl ⟨_, _, rfl, run_takeDeferred hK, ?_⟩⟩
      refine ⟨.tuple #[.int .i64 (areaW (upt l0 l0.length)), .int .i64 0], ?_, by rw [HR.out], hBW.trans (belowK_b (w := w) (Nat.le_refl _) W D _ _ (by omega) hK rfl rfl)⟩
      simp [results, Try.f23, go_sem]
    case stop =>
      rintro D c pre W hD _ h hK
      exact h.elim
  · have c1b : (e != 0) = true := by simp [c1]
    have hr := H.out
    rw [if_neg c1] at hr
    simp only [Option.some.injEq, Prod.mk.injEq] at hr
    obtain ⟨rfl, rfl⟩ := hr
    gi_wp2_with (refine ⟨trivial, ?_⟩; gi_at_call 22; refine (callsIn_wide.2 (geo_Simple.calls k A0 c0 l0 e _ HR0.out HC0.out HE.out)).mono ?_; rintro e w1 ⟨rfl, hb1⟩)
    refine ⟨.tuple #[.int .i64 0, .int .i64 e], ?_, rfl, hb1⟩
    simp [results, Try.f23, go_sem]
end Go.Proofs.Ytannklfnfacpeaa.X
