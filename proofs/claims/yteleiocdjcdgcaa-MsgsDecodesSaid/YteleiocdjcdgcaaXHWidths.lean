/- The contract of msgs.widths (a table of constants in an array of slices): what the function answers, for every kind, in whatever memory. -/
import Derived.Test.YteleiocdjcdgcaaXx0
import Derived.Test.YteleiocdjcdgcaaXHKit
namespace Go.Proofs.Yteleiocdjcdgcaa.X
open Go.RowKit Go.Proofs.YteleiocdjcdgcaaW.PrintWords Go.Proofs.YteleiocdjcdgcaaW.PrintLast Go.Proofs.YteleiocdjcdgcaaW.PrintMore Go.Proofs.Yteleiocdjcdgcaa.HKit
set_option linter.unusedVariables false
set_option linter.unusedSimpArgs false
def widthsTab (a : Int) : List Int := if a = 1 then [8, 8, 32, (-16), 16] else if a = 2 then [(-32), (-32), (-32), (-32), (-32), (-32), (-32)] else if a = 3 then [8, (-32), (-32), (-32)] else if a = 4 then [8, 16] else if a = 5 then [8, (-32)] else if a = 6 then [8, (-32)] else if a = 7 then [8, 16] else if a = 8 then [8, 16] else if a = 9 then [8, 16, 8, (-32), (-32), (-32), (-32)] else if a = 10 then [8, 16] else if a = 11 then [8] else []
def msgs_widths.f (a0 : Int) : Option (List Int) := if 0 ≤ a0 ∧ a0 ≤ 255 then some (widthsTab a0) else none
/-- The table lies at block g, each of its rows in a block of its own. -/
def Tables (w wc : World) (g : Nat) : Prop := Below w.heap.size w wc ∧ ∀ i : Nat, i < 12 → ∃ A n c, wc.cell? ⟨g, i, none⟩ = some (.slice A n c) ∧ Kd.R (Kd.int .i64) 3 wc w.heap.size (fun _ => True) (.slice A n c) (widthsTab i)
theorem tables_mk {w wc : World} {g : Nat} (hb : Below w.heap.size w wc) {cs : Array Value} (hg : wc.heap[g]? = some (.cells cs 48 (0, 0)))
    (h : ∀ i : Nat, i < 12 → ∃ A n c, cs[i]? = some (.slice A n c) ∧ Kd.R (Kd.int .i64) 3 wc w.heap.size (fun _ => True) (.slice A n c) (widthsTab i)) : Tables w wc g := by
  refine ⟨hb, fun i hi => ?_⟩
  obtain ⟨A, n, c, h1, h2⟩ := h i hi
  exact ⟨A, n, c, by simp [World.cell?, hg, h1], h2⟩
theorem low (a : Int) (h0 : 0 ≤ a) (h : a < 12) : a = 0 ∨ a = 1 ∨ a = 2 ∨ a = 3 ∨ a = 4 ∨ a = 5 ∨ a = 6 ∨ a = 7 ∨ a = 8 ∨ a = 9 ∨ a = 10 ∨ a = 11 := by omega
theorem msgs_widths.calls (a0 : Int) (r : List Int) (w : World) (h : msgs_widths.f a0 = some r) :
    Calls Try.prog 18 #[.int .u8 a0] w fun e w' => ∃ v0_ : Value, e = .returned (v0_) ∧ Kd.R (Kd.int .i64) 3 w' w.heap.size (fun _ => True) v0_ r ∧ Below w.heap.size w w' := by
  have hr : (0 ≤ a0 ∧ a0 ≤ 255) ∧ widthsTab a0 = r := by
    unfold msgs_widths.f at h
    split at h
    · exact ⟨‹_›, Option.some.inj h⟩
    · cases h
  clear h
  obtain ⟨⟨h0, h255⟩, hr⟩ := hr
  have HR := Aside0.mk hr
  clear hr
  go_enter Try.func18, Try.ntmps18
  go_upto_region 1 with (fail)
  go_cut [2, 3] (fun v2 v3 wc => ∃ g, v2 = .slice none 0 0 ∧ v3 = .pointer (some ⟨g, 0, none⟩) ∧ Tables w wc g)
  case first =>
    go_wp2
    go_meet
    case rel =>
      refine ⟨_, rfl, rfl, tables_mk (by repeat (first | exact Below.refl _ _ | apply below_alloc)) (heap_at _ _ _ (by simp)) ?_⟩
      intro i hi
      rcases i with _ | _ | _ | _ | _ | _ | _ | _ | _ | _ | _ | _ | i
      · exact ⟨_, _, _, rfl, Kd.R_nil _ _ _ _ _⟩
      · refine ⟨_, _, _, rfl, R_of_heap (xs := [8, 8, 32, (-16), 16]) ?_ ?_ ?_⟩
        · omega
        · repeat (first | (refine heap_at _ _ _ ?_; simp; done) | (refine (Below.heap_alloc _ _ _ ?_).trans ?_; · (first | (simp; done) | (simp; omega))))
        · decide
      · refine ⟨_, _, _, rfl, R_of_heap (xs := [(-32), (-32), (-32), (-32), (-32), (-32), (-32)]) ?_ ?_ ?_⟩
        · omega
        · repeat (first | (refine heap_at _ _ _ ?_; simp; done) | (refine (Below.heap_alloc _ _ _ ?_).trans ?_; · (first | (simp; done) | (simp; omega))))
        · decide
      · refine ⟨_, _, _, rfl, R_of_heap (xs := [8, (-32), (-32), (-32)]) ?_ ?_ ?_⟩
        · omega
        · repeat (first | (refine heap_at _ _ _ ?_; simp; done) | (refine (Below.heap_alloc _ _ _ ?_).trans ?_; · (first | (simp; done) | (simp; omega))))
        · decide
      · refine ⟨_, _, _, rfl, R_of_heap (xs := [8, 16]) ?_ ?_ ?_⟩
        · omega
        · repeat (first | (refine heap_at _ _ _ ?_; simp; done) | (refine (Below.heap_alloc _ _ _ ?_).trans ?_; · (first | (simp; done) | (simp; omega))))
        · decide
      · refine ⟨_, _, _, rfl, R_of_heap (xs := [8, (-32)]) ?_ ?_ ?_⟩
        · omega
        · repeat (first | (refine heap_at _ _ _ ?_; simp; done) | (refine (Below.heap_alloc _ _ _ ?_).trans ?_; · (first | (simp; done) | (simp; omega))))
        · decide
      · refine ⟨_, _, _, rfl, R_of_heap (xs := [8, (-32)]) ?_ ?_ ?_⟩
        · omega
        · repeat (first | (refine heap_at _ _ _ ?_; simp; done) | (refine (Below.heap_alloc _ _ _ ?_).trans ?_; · (first | (simp; done) | (simp; omega))))
        · decide
      · refine ⟨_, _, _, rfl, R_of_heap (xs := [8, 16]) ?_ ?_ ?_⟩
        · omega
        · repeat (first | (refine heap_at _ _ _ ?_; simp; done) | (refine (Below.heap_alloc _ _ _ ?_).trans ?_; · (first | (simp; done) | (simp; omega))))
        · decide
      · refine ⟨_, _, _, rfl, R_of_heap (xs := [8, 16]) ?_ ?_ ?_⟩
        · omega
        · repeat (first | (refine heap_at _ _ _ ?_; simp; done) | (refine (Below.heap_alloc _ _ _ ?_).trans ?_; · (first | (simp; done) | (simp; omega))))
        · decide
      · refine ⟨_, _, _, rfl, R_of_heap (xs := [8, 16, 8, (-32), (-32), (-32), (-32)]) ?_ ?_ ?_⟩
        · omega
        · repeat (first | (refine heap_at _ _ _ ?_; simp; done) | (refine (Below.heap_alloc _ _ _ ?_).trans ?_; · (first | (simp; done) | (simp; omega))))
        · decide
      · refine ⟨_, _, _, rfl, R_of_heap (xs := [8, 16]) ?_ ?_ ?_⟩
        · omega
        · repeat (first | (refine heap_at _ _ _ ?_; simp; done) | (refine (Below.heap_alloc _ _ _ ?_).trans ?_; · (first | (simp; done) | (simp; omega))))
        · decide
      · refine ⟨_, _, _, rfl, R_of_heap (xs := [8]) ?_ ?_ ?_⟩
        · omega
        · repeat (first | (refine heap_at _ _ _ ?_; simp; done) | (refine (Below.heap_alloc _ _ _ ?_).trans ?_; · (first | (simp; done) | (simp; omega))))
        · decide
      · omega
  case rest =>
    obtain ⟨g, rfl, rfl, HB, HT⟩ := hcut
    by_cases hge : 12 ≤ a0
    · have hw : wrap64 a0 = a0 := by unfold wrap64; omega
      have hd : decide (12 ≤ a0) = true := decide_eq_true hge
      have e : widthsTab a0 = [] := by unfold widthsTab; repeat rw [if_neg (by omega)]
      have E := Aside0.mk e
      clear e
      go_wp2
      go_ret
      exact ⟨_, rfl, by rw [← HR.out, E.out]; exact Kd.R_nil _ _ _ _ _, HB⟩
    · obtain ⟨A, n, c, hc, hR⟩ := HT a0.toNat (by omega)
      have ea : ((a0.toNat : Nat) : Int) = a0 := by omega
      have HR2 := Aside0.mk hR
      clear hR HT
      have hw : wrap64 a0 = a0 := by unfold wrap64; omega
      have hd : decide (12 ≤ a0) = false := decide_eq_false hge
      have EA := Aside0.mk ea
      clear ea
      have hlt : a0 < 12 := by omega
      clear hge
      go_wp2
      go_ret
      exact ⟨_, rfl, by rw [← HR.out, ← EA.out]; exact HR2.out, HB⟩
end Go.Proofs.Yteleiocdjcdgcaa.X
