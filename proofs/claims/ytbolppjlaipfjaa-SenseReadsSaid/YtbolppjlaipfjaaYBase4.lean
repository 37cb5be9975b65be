import Derived.Test.YtbolppjlaipfjaaYBase3
import Derived.Test.YtbolppjlaipfjaaProg
import Derived.Below
import Derived.Deep.Draws
import Derived.Deep.AppendLies
import Derived.Maps.AppendAt
import Derived.OwnWalk
import Derived.Laws.BytesArg
import Derived.Laws.MakeOwn
import Derived.Laws.OwnMore
import Derived.Deep.OwnRows
import Derived.Tactics
import Derived.Lib.ConvBytes
import Derived.Laws.Slices
import Derived.WalkKit
import Derived.KernelRfl
import Derived.RowKit3
import Derived.Deep.LoopGhost
import Derived.Deep.QuietTactic
import Derived.BigQuiet
import Derived.WideLaws
import Derived.Deep.DeepCutAuto
import Derived.Deep.CutBlock
import Derived.Deep.RegionHeld3
import Derived.Laws.Rows
import Derived.Lib.AppendStr
import Derived.ArgAppend
import Derived.Laws.IdiomCopy
import Derived.OrdersHeld
import Derived.Laws.BitsLemmas
import Derived.RowKit
section
set_option linter.unusedSectionVars false
set_option linter.unusedSimpArgs false
set_option linter.unusedVariables false
namespace Go.Proofs.Ytbolppjlaipfjaa.X
open Go.RowKit Go.Proofs.YtbolppjlaipfjaaW.PrintWords Go.Proofs.YtbolppjlaipfjaaW.PrintLast Go.Proofs.YtbolppjlaipfjaaW.PrintMore Go.Proofs.Ytbolppjlaipfjaa.HKit
set_option linter.unusedVariables false
set_option linter.unusedSimpArgs false
theorem info3 : (Try.prog.info? 3).map (fun i => (i.zero, i.size, i.bytes)) = some (some (.int .i64 0), 1, 8) := by kernel_rfl
theorem w64' {n : Int} (h0 : -9223372036854775808 ≤ n) (h1 : n ≤ 9223372036854775807) : wrap64 n = n := by unfold wrap64; omega
theorem wrap_i64 (x : Int) : IntKind.i64.wrap x = wrap64 x := by
  have e1 : (2 : Int) ^ IntKind.i64.bits = 18446744073709551616 := by decide
  have e2 : (2 : Int) ^ (IntKind.i64.bits - 1) = 9223372036854775808 := by decide
  unfold IntKind.wrap wrap64
  simp only [e1, e2, show IntKind.i64.signed = true from rfl, Bool.true_and, decide_eq_true_eq]
  split <;> omega
def RowI (W : World) (base : Nat) (A : Option Addr) (n c : Nat) (f : Nat → Int) : Prop :=
  (A = none ∧ n = 0 ∧ c = 0) ∨ ∃ g cur, A = some ⟨g, 0, none⟩ ∧ base ≤ g ∧ W.heap[g]? = some (.cells cur 3 (0, 0)) ∧ n ≤ c ∧ True ∧ cur.size = c ∧ ∀ t, t < n → cur[t]? = some (.int .i64 (f t))
def own (A : Option Addr) : Option Nat := A.map (·.block)
theorem RowI.keep {W W' : World} {base n c : Nat} {A : Option Addr} {f : Nat → Int} (h : RowI W base A n c f) (hk : ∀ g, own A = some g → W'.heap[g]? = W.heap[g]?) : RowI W' base A n c f := by
  rcases h with h | ⟨g, cur, rfl, h1, h2, h3⟩
  · exact .inl h
  · exact .inr ⟨g, cur, rfl, h1, (hk g rfl).trans h2, h3⟩
theorem RowI.lt {W : World} {base n c : Nat} {A : Option Addr} {f : Nat → Int} (h : RowI W base A n c f) : ∀ g, own A = some g → base ≤ g ∧ g < W.heap.size := by
  intro g hg
  rcases h with ⟨rfl, _⟩ | ⟨g', cur, rfl, h1, h2, _⟩
  · cases hg
  · obtain rfl : g' = g := by simpa [own] using hg
    exact ⟨h1, (Array.getElem?_eq_some_iff.1 h2).1⟩
theorem RowI.at_ {W : World} {base n c t : Nat} {A : Option Addr} {f : Nat → Int} (h : RowI W base A n c f) (ht : t < n) : ∃ g, A = some ⟨g, 0, none⟩ ∧ W.cell? ⟨g, t, none⟩ = some (.int .i64 (f t)) ∧ W.frozen? ⟨g, t, none⟩ = false := by
  rcases h with ⟨_, rfl, _⟩ | ⟨g, cur, rfl, h1, h2, h3, h4, h5, h6⟩
  · omega
  · exact ⟨g, rfl, by simp [World.cell?, h2, h6 t ht], by simp [World.frozen?, h2]⟩
theorem RowI.set {W : World} {base n c g k : Nat} {f : Nat → Int} (h : RowI W base (some ⟨g, 0, none⟩) n c f) (hk : k < n) (x : Int) : RowI (W.setCell ⟨g, k, none⟩ (.int .i64 x)) base (some ⟨g, 0, none⟩) n c (fun t => if t = k then x else f t) := by
  rcases h with ⟨h, _⟩ | ⟨g', cur, e, h1, h2, h3, h4, h5, h6⟩
  · cases h
  · obtain rfl : g = g' := by simpa using e
    refine .inr ⟨g, cur.setIfInBounds k (.int .i64 x), rfl, h1, blk_set h2 k _, h3, h4, by simpa using h5, fun t ht => ?_⟩
    dsimp only
    by_cases e : t = k
    · subst e
      rw [if_pos rfl, Array.getElem?_setIfInBounds_self_of_lt (by omega)]
    · rw [if_neg e, Array.getElem?_setIfInBounds_ne (Ne.symm e)]
      exact h6 t ht
def KeepsPre (W W' : World) (A : Option Addr) (n : Nat) : Prop :=
  ∀ b, b < W.heap.size → (own A ≠ some b → W'.heap[b]? = W.heap[b]?) ∧
    (own A = some b → ∀ cur, W.heap[b]? = some (.cells cur 3 (0, 0)) → ∃ cur', W'.heap[b]? = some (.cells cur' 3 (0, 0)) ∧ cur'.size = cur.size ∧ ∀ t, t < n → cur'[t]? = cur[t]?)
theorem RowI.pre {W W' : World} {base n c m : Nat} {A B : Option Addr} {f : Nat → Int} (h : RowI W base A n c f) (hk : KeepsPre W W' B m) (hm : own A = own B → n ≤ m) : RowI W' base A n c f := by
  rcases h with h | ⟨g, cur, rfl, h1, h2, h3, h4, h5, h6⟩
  · exact .inl h
  · have hl := (Array.getElem?_eq_some_iff.1 h2).1
    by_cases e : own B = some g
    · obtain ⟨cur', k1, k2, k3⟩ := (hk g hl).2 e cur h2
      exact .inr ⟨g, cur', rfl, h1, k1, h3, h4, by omega, fun t ht => by rw [k3 t (by have := hm (by rw [e]; rfl); omega)]; exact h6 t ht⟩
    · exact .inr ⟨g, cur, rfl, h1, ((hk g hl).1 e).trans h2, h3, h4, h5, h6⟩
theorem RowI.owns {W : World} {base n c : Nat} {A : Option Addr} {f : Nat → Int} (h : RowI W base A n c f) (hcm : c ≤ maxLen) : W.ownsRow base 3 1 (.slice A n c) n ((List.range n).map fun t => .int .i64 (f t)) := by
  refine ⟨by simp, ?_⟩
  rcases h with ⟨rfl, rfl, rfl⟩ | ⟨g, cur, rfl, h1, h2, h3, h4, h5, h6⟩
  · exact .inl ⟨rfl, rfl⟩
  · refine .inr ⟨g, c, cur, rfl, h1, h2, h3, hcm, by omega, ?_⟩
    apply List.ext_getElem?
    intro t
    rw [Nat.mul_one]
    by_cases ht : t < n
    · rw [List.getElem?_take_of_lt ht, Array.getElem?_toList, h6 t ht]
      simp [ht]
    · rw [List.getElem?_eq_none (by simp; omega), List.getElem?_eq_none (by simp; omega)]
theorem RowI.of_owns {W : World} {base n : Nat} {v : Value} {f : Nat → Int} {xs : List Value} (h : W.ownsRow base 3 1 v (n + 1) xs) (hx : ∀ t, t < n + 1 → xs[t]? = some (.int .i64 (f t))) : ∃ A c, v = .slice A (n + 1) c ∧ RowI W base A (n + 1) c f := by
  rcases h.2 with ⟨_, h⟩ | ⟨g, cap, cur, rfl, h1, h2, h3, h4, h5, h6⟩
  · omega
  · refine ⟨_, _, rfl, .inr ⟨g, cur, rfl, h1, h2, h3, trivial, by omega, fun t ht => ?_⟩⟩
    have := hx t ht
    rw [← h6, Nat.mul_one, List.getElem?_take_of_lt ht, Array.getElem?_toList] at this
    exact this
theorem append_row (ty : TypeId) {W : World} {base n c : Nat} {A : Option Addr} {f : Nat → Int} (h : RowI W base A n c f) (hb : base ≤ W.heap.size) (hn : n ≤ 2000000) (x : Int) :
    ∃ A' c' W', (Builtin.append_ #[22, 22] ty #[.slice A n c, .slice (some ⟨W.heap.size, 0, none⟩) 1 1]).run Try.prog (W.alloc (.cells #[.int .i64 x] 3)) = .ok (.slice A' (n + 1) c') W' ∧
      RowI W' base A' (n + 1) c' (fun t => if t = n then x else f t) ∧ KeepsPre (W.alloc (.cells #[.int .i64 x] 3)) W' A n ∧ (W.alloc (.cells #[.int .i64 x] 3)).grownBy W' (own A) ∧ (own A' = own A ∨ ∃ b, own A' = some b ∧ W.heap.size + 1 ≤ b) := by
  obtain ⟨i0, hi, hz0, hz1, hz2⟩ := info_parts info3
  have hx0 : ∀ j u, ([.int .i64 x] : List Value)[j]? = some u → (W.alloc (.cells #[.int .i64 x] 3)).cell? ((⟨W.heap.size, 0, none⟩ : Addr).add j) = some u := cell_one_new _ _ _
  have h10 : ∀ u ∈ ([.int .i64 x] : List Value), u.oneCell' = true := fun u hu => by simp at hu; subst hu; rfl
  by_cases hcm : c ≤ maxLen
  case neg =>
    rcases h with ⟨_, _, rfl⟩ | ⟨g, cur0, rfl, g1, g2, g3, g4, g5, g6⟩
    · exact absurd (Nat.zero_le _) hcm
    have room : n + 1 ≤ c := by simp only [maxLen] at hcm; omega
    have g2' := (Below.heap_alloc W (.cells #[.int .i64 x] 3) g (Array.getElem?_eq_some_iff.1 g2).1).trans g2
    have hr2 := run_append_room (P := Try.prog) (W.alloc (.cells #[.int .i64 x] 3)) 22 ty 3 i0 Try.underlying22 hi g n c cur0 g2' ⟨W.heap.size, 0, none⟩ 1 1 [.int .i64 x] (by rw [hz1]; rfl) hx0 h10 room (by rw [hz1]; simp; omega)
    rw [hz1] at hr2
    simp only [Nat.mul_one] at hr2
    refine ⟨_, _, _, hr2, .inr ⟨g, _, rfl, g1, setRow_heap _ g cur0 _ 3 _ g2', room, trivial, by simp; omega, fun t ht => ?_⟩, fun b hbl => ⟨fun hne => setRow_other _ _ _ _ (fun e => hne (by rw [e]; rfl)), fun he cur hcur => ?_⟩, ⟨rfl, rfl, rfl, by simp [World.setRow], fun b hb hne => setRow_other _ _ _ _ (fun e => hne (by rw [e]; rfl))⟩, .inl rfl⟩
    · simp only [List.getElem?_toArray]
      rw [List.getElem?_append_left (by simp; omega)]
      by_cases e : t = n
      · subst e
        rw [List.getElem?_append_right (by simp; omega)]
        simp [show min t cur0.size = t by omega]
      · rw [List.getElem?_append_left (by simp; omega), List.getElem?_take_of_lt (by omega), Array.getElem?_toList, g6 t (by omega), if_neg e]
    · obtain rfl : g = b := by simpa [own] using he
      rw [g2'] at hcur
      obtain rfl : cur0 = cur := by simpa using hcur
      refine ⟨_, setRow_heap _ g cur0 _ 3 _ g2', by simp; omega, fun t ht => ?_⟩
      simp only [List.getElem?_toArray]
      rw [List.getElem?_append_left (by simp; omega), List.getElem?_append_left (by simp; omega), List.getElem?_take_of_lt ht, Array.getElem?_toList]
  have ho := (h.keep (W' := W.alloc (.cells #[.int .i64 x] 3)) (fun g hg => Below.heap_alloc _ _ _ (h.lt g hg).2)).owns hcm
  have hx : ∀ j u, ([.int .i64 x] : List Value)[j]? = some u → (W.alloc (.cells #[.int .i64 x] 3)).cell? ((⟨W.heap.size, 0, none⟩ : Addr).add j) = some u := cell_one_new _ _ _
  have h1 : ∀ u ∈ ([.int .i64 x] : List Value), u.oneCell' = true := fun u hu => by simp at hu; subst hu; rfl
  obtain ⟨v', W', hr, hown, hg, _⟩ := run_append_own (P := Try.prog) (W.alloc (.cells #[.int .i64 x] 3)) base 22 ty 3 i0 (.int .i64 0) 1 8 Try.underlying22 hi hz0 hz1 hz2 rfl (by decide) _ n _ ho ⟨W.heap.size, 0, none⟩ 1 1 [.int .i64 x] rfl hx h1 (by simp only [maxLen]; omega) (by omega) (by simp; omega)
  obtain ⟨A', c', rfl, hrow⟩ := RowI.of_owns (f := fun t => if t = n then x else f t) hown (fun t ht => by
    by_cases e : t = n
    · subst e
      rw [List.getElem?_append_right (by simp)]
      simp
    · rw [List.getElem?_append_left (by simp; omega)]
      simp [show t < n by omega, e])
  have hgA : (Value.slice A n c).ownBlock = own A := by cases A <;> rfl
  rw [hgA] at hg
  have hfar : ∀ b, b < (W.alloc (.cells #[.int .i64 x] 3)).heap.size → own A ≠ some b → W'.heap[b]? = (W.alloc (.cells #[.int .i64 x] 3)).heap[b]? := fun b hbl hne => hg.block b hbl (fun e => hne e.symm)
  rcases h with ⟨rfl, rfl, rfl⟩ | ⟨g, cur0, rfl, g1, g2, g3, g4, g5, g6⟩
  · have hr2 := run_append_nil (P := Try.prog) (W.alloc (.cells #[.int .i64 x] 3)) 22 ty 3 i0 (.int .i64 0) Try.underlying22 hi hz0 ⟨W.heap.size, 0, none⟩ 1 1 [.int .i64 x] (by rw [hz1]; rfl) hx (by omega) (by omega) (by rw [hz2]; omega)
    have hr' := hr
    rw [hr2] at hr'
    injection hr' with hv hW
    injection hv with hA _ _
    exact ⟨A', c', W', hr, hrow, fun b hbl => ⟨hfar b hbl, fun e => by cases e⟩, hg, .inr ⟨_, by rw [← hA]; rfl, by simp⟩⟩
  · have g2' := (Below.heap_alloc W (.cells #[.int .i64 x] 3) g (Array.getElem?_eq_some_iff.1 g2).1).trans g2
    by_cases room : n + 1 ≤ c
    · have hr2 := run_append_room (P := Try.prog) (W.alloc (.cells #[.int .i64 x] 3)) 22 ty 3 i0 Try.underlying22 hi g n c cur0 g2' ⟨W.heap.size, 0, none⟩ 1 1 [.int .i64 x] (by rw [hz1]; rfl) hx h1 room (by rw [hz1]; simp; omega)
      have hr' := hr
      rw [hr2] at hr'
      injection hr' with hv hW
      injection hv with hA _ _
      refine ⟨A', c', W', hr, hrow, fun b hbl => ⟨hfar b hbl, fun he cur hcur => ?_⟩, hg, .inl (by rw [← hA])⟩
      obtain rfl : g = b := by simpa [own] using he
      rw [g2'] at hcur
      obtain rfl : cur0 = cur := by simpa using hcur
      subst hW
      refine ⟨_, setRow_heap _ g cur0 _ 3 _ g2', ?_, fun t ht => ?_⟩
      · rw [hz1]; simp; omega
      · rw [hz1]
        simp only [Nat.mul_one, List.getElem?_toArray]
        rw [List.getElem?_append_left (by simp; omega), List.getElem?_append_left (by simp; omega), List.getElem?_take_of_lt ht, Array.getElem?_toList]
    · have hr2 := run_append_grow (P := Try.prog) (W.alloc (.cells #[.int .i64 x] 3)) 22 ty 3 i0 (.int .i64 0) Try.underlying22 hi hz0 ⟨g, 0, none⟩ n c _ (by rw [hz1]; exact ho.1) (ho.cells (g := g) rfl) ⟨W.heap.size, 0, none⟩ 1 1 [.int .i64 x] (by rw [hz1]; rfl) hx (by omega) (by omega) (growslice_fits (by omega) (by rw [hz2]; omega))
      have hr' := hr
      rw [hr2] at hr'
      injection hr' with hv hW
      injection hv with hA _ _
      refine ⟨A', c', W', hr, hrow, fun b hbl => ⟨hfar b hbl, fun he cur hcur => ?_⟩, hg, .inr ⟨_, by rw [← hA]; rfl, by simp⟩⟩
      obtain rfl : g = b := by simpa [own] using he
      rw [g2'] at hcur
      obtain rfl : cur0 = cur := by simpa using hcur
      subst hW
      exact ⟨cur0, (heap_alloc_old _ _ (show g < _ from hbl)).trans g2', rfl, fun _ _ => rfl⟩
def markI (j t : Nat) : Int := (j : Int) * 1000003 + (t : Int)
def appI (j t : Nat) : Int := -(j : Int) * 1000003 - (t : Int) - 1
section
variable {base gL oL cL : Nat} {A : Nat → Option Addr} {n c : Nat → Nat} {w W W' : World} {i k : Nat}
/-- What two lists in blocks of their own, a list of them, and the place for the longer ones are known by. -/
structure Two (base gL oL : Nat) (A : Nat → Option Addr) (n c : Nat → Nat) (w : World) : Prop where
  le : base ≤ gL
  lt : gL < w.heap.size
  ls : ∀ j, j < 2 → w.cell? ⟨gL, oL + j, none⟩ = some (.slice (A j) (n j) (c j))
  row : ∀ j, j < 2 → ∃ f, RowI w base (A j) (n j) (c j) f
  far : ∀ j, j < 2 → own (A j) ≠ some gL
  two : ∀ g, own (A 0) = some g → own (A 1) ≠ some g
  few : ∀ j, j < 2 → n j ≤ 1000000
theorem Two.lt_row (h : Two base gL oL A n c w) : ∀ j, j < 2 → ∀ g, own (A j) = some g → g < w.heap.size := by
  intro j hj g hg
  obtain ⟨f, hf⟩ := h.row j hj
  exact (hf.lt g hg).2
theorem Two.ne (h : Two base gL oL A n c w) : ∀ j j', j < 2 → j' < 2 → j ≠ j' → ∀ g, own (A j) = some g → own (A j') ≠ some g := by
  intro j j' hj hj' hne g hg e
  have : (j = 0 ∧ j' = 1) ∨ (j = 1 ∧ j' = 0) := by omega
  rcases this with ⟨rfl, rfl⟩ | ⟨rfl, rfl⟩
  · exact h.two g hg e
  · exact h.two g e hg
/-- The first loop: the lists before i are marked, k places of list i too. -/
structure S1 (base gL : Nat) (A : Nat → Option Addr) (n c : Nat → Nat) (w : World) (W : World) (i k : Nat) : Prop where
  below : Below base w W
  size : w.heap.size < W.heap.size
  lsB : W.heap[gL]? = w.heap[gL]?
  rows : ∃ f : Nat → Nat → Int, (∀ j, j < 2 → RowI W base (A j) (n j) (c j) (f j)) ∧ ∀ j t, j < 2 → (j < i ∨ j = i ∧ t < k) → t < n j → f j t = markI j t
  long : ∃ cur, W.heap[w.heap.size]? = some (.cells cur 22 (0, 0)) ∧ cur.size = 2 ∧ ∀ j, j < i → j < 2 → cur[j]? = some (.slice (A j) (n j) (c j))
theorem S1.cellL (h : S1 base gL A n c w W i k) (ht : Two base gL oL A n c w) {j : Nat} (hj : j < 2) : W.cell? ⟨gL, oL + j, none⟩ = some (.slice (A j) (n j) (c j)) := (World.cell?_of_block h.lsB).trans (ht.ls j hj)
theorem S1.first (ht : Two base gL oL A n c w) : S1 base gL A n c w (w.alloc (.cells #[.slice none 0 0, .slice none 0 0] 22)) 0 0 := by
  have hk : ∀ g, g < w.heap.size → (w.alloc (.cells #[.slice none 0 0, .slice none 0 0] 22)).heap[g]? = w.heap[g]? := fun g hg => Below.heap_alloc _ _ _ hg
  obtain ⟨f0, h0⟩ := ht.row 0 (by omega)
  obtain ⟨f1, h1⟩ := ht.row 1 (by omega)
  refine ⟨(Below.refl base w).alloc (by have := ht.le; have := ht.lt; omega) _, by simp, hk _ ht.lt, ⟨fun j => if j = 0 then f0 else f1, fun j hj => ?_, fun j t _ h => by omega⟩, ⟨_, heap_at _ _ _ rfl, rfl, fun j hj => by omega⟩⟩
  have : j = 0 ∨ j = 1 := by omega
  rcases this with rfl | rfl
  · exact h0.keep fun g hg => hk g (h0.lt g hg).2
  · exact h1.keep fun g hg => hk g (h1.lt g hg).2
theorem S1.put (h : S1 base gL A n c w W i k) (ht : Two base gL oL A n c w) (hi : i < 2) (hk : k < n i) {g : Nat} (hg : A i = some ⟨g, 0, none⟩) : S1 base gL A n c w (W.setCell ⟨g, k, none⟩ (.int .i64 (markI i k))) i (k + 1) := by
  have hog : own (A i) = some g := by rw [hg]; rfl
  have hlt := ht.lt_row i hi g hog
  have hgL : g ≠ gL := fun e => ht.far i hi (by rw [hog, e])
  obtain ⟨f, hf, hm⟩ := h.rows
  obtain ⟨cur, hc1, hc2, hc3⟩ := h.long
  have hle := ((hf i hi).lt g hog).1
  refine ⟨h.below.setCell (p := ⟨g, k, none⟩) hle _, by simpa using h.size, (Below.heap_setCell _ _ _ _ (Ne.symm hgL)).trans h.lsB, ⟨fun j => if j = i then (fun t => if t = k then markI i k else f i t) else f j, fun j hj => ?_, fun j t hj hjt ht' => ?_⟩, ⟨cur, blk_far hc1 (by show w.heap.size ≠ g; omega) _, hc2, hc3⟩⟩
  · by_cases e : j = i
    · subst e
      simp only [if_true]
      have := hf j hj
      rw [hg] at this ⊢
      exact this.set hk _
    · simp only [if_neg e]
      refine (hf j hj).keep fun g' hg' => Below.heap_setCell _ _ _ _ ?_
      intro e'
      exact ht.ne i j hi hj (Ne.symm e) g hog (by rw [hg', e'])
  · by_cases e : j = i
    · subst e
      simp only [if_true]
      by_cases e2 : t = k
      · rw [if_pos e2, e2]
      · rw [if_neg e2]
        exact hm j t hj (by omega) ht'
    · simp only [if_neg e]
      exact hm j t hj (by omega) ht'
theorem S1.next (h : S1 base gL A n c w W i (n i)) (ht : Two base gL oL A n c w) (hi : i < 2) : S1 base gL A n c w (W.setCell ⟨w.heap.size, i, none⟩ (.slice (A i) (n i) (c i))) (i + 1) 0 := by
  obtain ⟨f, hf, hm⟩ := h.rows
  obtain ⟨cur, hc1, hc2, hc3⟩ := h.long
  have hl := ht.lt
  have hbl := ht.le
  refine ⟨h.below.setCell (p := ⟨w.heap.size, i, none⟩) (by show base ≤ w.heap.size; omega) _, by simpa using h.size, (Below.heap_setCell _ _ _ _ (by show gL ≠ w.heap.size; omega)).trans h.lsB, ⟨f, fun j hj => (hf j hj).keep fun g hg => Below.heap_setCell _ _ _ _ ?_, fun j t hj hjt ht' => hm j t hj ?_ ht'⟩, ⟨_, blk_set hc1 i _, by simpa using hc2, fun j hj hj2 => ?_⟩⟩
  · have := ht.lt_row j hj g hg
    show g ≠ w.heap.size
    omega
  · rcases hjt with h' | ⟨_, h'⟩
    · by_cases e : j = i
      · subst e; exact .inr ⟨rfl, ht'⟩
      · exact .inl (by omega)
    · omega
  · by_cases e : j = i
    · subst e
      rw [Array.getElem?_setIfInBounds_self_of_lt (by omega)]
    · rw [Array.getElem?_setIfInBounds_ne (Ne.symm e)]
      exact hc3 j (by omega) hj2
theorem S1.cellM (h : S1 base gL A n c w W i k) {j : Nat} (hj : j < 2) : (∃ u, W.cell? ⟨w.heap.size, j, none⟩ = some u) ∧ W.frozen? ⟨w.heap.size, j, none⟩ = false := by
  obtain ⟨cur, hc1, hc2, hc3⟩ := h.long
  exact ⟨⟨cur[j], by rw [blk_cell hc1 j]; simp [show j < cur.size by omega]⟩, blk_frozen hc1 j⟩
end
section
variable {P : Program} {ops : Array Oper} {rest : List Oper} {o : Oper} {a : Act} {Q : Exit → Act → World → Prop}
theorem append_walk {W : World} {base n c : Nat} {A : Option Addr} {f : Nat → Int} (hgd : o.guard = none) (s x : Operand) (ho : o.op = .call { callee := .builtin .append, args := #[s, x], argTypes := #[22, 22] })
    (h : RowI W base A n c f) (hb : base ≤ W.heap.size) (hn : n ≤ 2000000) (v : Int) (hs : a.eval s = .slice A n c) (hx : a.eval x = .slice (some ⟨W.heap.size, 0, none⟩) 1 1)
    (k : ∀ A' c' W', RowI W' base A' (n + 1) c' (fun t => if t = n then v else f t) → KeepsPre (W.alloc (.cells #[.int .i64 v] 3)) W' A n → (W.alloc (.cells #[.int .i64 v] 3)).grownBy W' (own A) → (own A' = own A ∨ ∃ b, own A' = some b ∧ W.heap.size + 1 ≤ b) →
      wpList Try.prog ops Q rest (a.put o.dst (.slice A' (n + 1) c')) W') : wpList Try.prog ops Q (o :: rest) a (W.alloc (.cells #[.int .i64 v] 3)) := by
  obtain ⟨A', c', W', hr, h1, h2, h3, h4⟩ := append_row o.type h hb hn v
  refine wpList_plain hgd fun _ hK => ?_
  unfold Oper.wp execOp
  simp only [ho, resolve, invoke, builtin, Sem.run_bind, Sem.run_pure, Result.andThen_ok, List.map_toArray, List.map_cons, List.map_nil, hs, hx, hr]
  exact hK _ _ (k A' c' W' h1 h2 h3 h4)
end
def longI (n : Nat → Nat) (j t : Nat) : Int := if t < n j then markI j t else appI j (t - n j)
theorem RowI.congr {W : World} {base n c : Nat} {A : Option Addr} {f f' : Nat → Int} (h : RowI W base A n c f) (he : ∀ t, t < n → f t = f' t) : RowI W base A n c f' := by
  rcases h with h | ⟨g, cur, rfl, h1, h2, h3, h4, h5, h6⟩
  · exact .inl h
  · exact .inr ⟨g, cur, rfl, h1, h2, h3, h4, h5, fun t ht => by rw [← he t ht]; exact h6 t ht⟩
def more (i k j : Nat) : Nat := if j < i then 16 else if j = i then k else 0
section
variable {base gL oL cL : Nat} {A : Nat → Option Addr} {n c : Nat → Nat} {w W W' : World} {i k : Nat} {B : Nat → Option Addr} {d : Nat → Nat}
/-- The second loop: list i has got k places more. -/
structure S2 (base gL : Nat) (A : Nat → Option Addr) (n c : Nat → Nat) (w : World) (B : Nat → Option Addr) (d : Nat → Nat) (W : World) (i k : Nat) : Prop where
  below : Below base w W
  size : w.heap.size < W.heap.size
  lsB : W.heap[gL]? = w.heap[gL]?
  rows : ∀ j, j < 2 → RowI W base (A j) (n j) (c j) (markI j)
  long : ∃ cur, W.heap[w.heap.size]? = some (.cells cur 22 (0, 0)) ∧ cur.size = 2 ∧ ∀ j, j < 2 → cur[j]? = some (.slice (B j) (n j + more i k j) (d j))
  grow : ∀ j, j < 2 → RowI W base (B j) (n j + more i k j) (d j) (longI n j)
  ne : ∀ j j', j < 2 → j' < 2 → j ≠ j' → ∀ g, own (B j) = some g → own (B j') ≠ some g ∧ own (A j') ≠ some g
  far : ∀ j, j < 2 → own (B j) ≠ some gL ∧ own (B j) ≠ some w.heap.size
theorem S2.cellL (h : S2 base gL A n c w B d W i k) (ht : Two base gL oL A n c w) {j : Nat} (hj : j < 2) : W.cell? ⟨gL, oL + j, none⟩ = some (.slice (A j) (n j) (c j)) := (World.cell?_of_block h.lsB).trans (ht.ls j hj)
theorem S2.cellM (h : S2 base gL A n c w B d W i k) {j : Nat} (hj : j < 2) : W.cell? ⟨w.heap.size, j, none⟩ = some (.slice (B j) (n j + more i k j) (d j)) ∧ W.frozen? ⟨w.heap.size, j, none⟩ = false := by
  obtain ⟨cur, hc1, hc2, hc3⟩ := h.long
  exact ⟨by rw [blk_cell hc1 j]; exact hc3 j hj, blk_frozen hc1 j⟩
theorem S2.first (h : S1 base gL A n c w W 2 0) (ht : Two base gL oL A n c w) : S2 base gL A n c w A c W 0 0 := by
  obtain ⟨f, hf, hm⟩ := h.rows
  obtain ⟨cur, hc1, hc2, hc3⟩ := h.long
  have hz : ∀ j, n j + more 0 0 j = n j := fun j => by
    unfold more
    rw [if_neg (by omega)]
    split <;> omega
  refine ⟨h.below, h.size, h.lsB, fun j hj => (hf j hj).congr fun t ht' => hm j t hj (.inl hj) ht', ⟨cur, hc1, hc2, fun j hj => by rw [hz]; exact hc3 j hj hj⟩, fun j hj => ?_, fun j j' hj hj' hne g hg => ⟨ht.ne j j' hj hj' hne g hg, ht.ne j j' hj hj' hne g hg⟩, fun j hj => ⟨ht.far j hj, fun e => by have := ht.lt_row j hj _ e; omega⟩⟩
  rw [hz]
  exact (hf j hj).congr fun t ht' => by rw [hm j t hj (.inl hj) ht', longI, if_pos ht']
theorem more_self : more i k i = k := by simp [more]
theorem more_other {j : Nat} (h : j ≠ i) : more i k j = more i (k + 1) j := by simp [more, h]
theorem S2.next (h : S2 base gL A n c w B d W i 16) : S2 base gL A n c w B d W (i + 1) 0 := by
  have hm : ∀ j, more (i + 1) 0 j = more i 16 j := by
    intro j
    unfold more
    by_cases h1 : j < i
    · rw [if_pos (by omega), if_pos h1]
    · by_cases h2 : j = i
      · rw [if_pos (by omega), if_neg h1, if_pos h2]
      · rw [if_neg (by omega), if_neg h1, if_neg h2]
        split <;> rfl
  obtain ⟨cur, hc1, hc2, hc3⟩ := h.long
  exact ⟨h.below, h.size, h.lsB, h.rows, ⟨cur, hc1, hc2, fun j hj => by rw [hm]; exact hc3 j hj⟩, fun j hj => by rw [hm]; exact h.grow j hj, h.ne, h.far⟩
theorem S2.app (h : S2 base gL A n c w B d W i k) (ht : Two base gL oL A n c w) (hi : i < 2) {A' : Option Addr} {c' : Nat} (h1 : RowI W' base A' (n i + k + 1) c' (fun t => if t = n i + k then appI i k else longI n i t))
    (h2 : KeepsPre (W.alloc (.cells #[.int .i64 (appI i k)] 3)) W' (B i) (n i + k)) (h3 : (W.alloc (.cells #[.int .i64 (appI i k)] 3)).grownBy W' (own (B i))) (h4 : own A' = own (B i) ∨ ∃ b, own A' = some b ∧ W.heap.size + 1 ≤ b) :
    S2 base gL A n c w (fun j => if j = i then A' else B j) (fun j => if j = i then c' else d j) (W'.setCell ⟨w.heap.size, i, none⟩ (.slice A' (n i + k + 1) c')) i (k + 1) := by
  have hs := h.size
  have hs' := h3.size
  simp only [World.size_alloc] at hs'
  have hlt := ht.lt
  have hle := ht.le
  have hal : ∀ g, g < W.heap.size → (W.alloc (.cells #[.int .i64 (appI i k)] 3)).heap[g]? = W.heap[g]? := fun g hg => Below.heap_alloc _ _ _ hg
  have hza : (W.alloc (.cells #[.int .i64 (appI i k)] 3)).heap.size = W.heap.size + 1 := by simp
  have hoth : ∀ g, g < W.heap.size → own (B i) ≠ some g → W'.heap[g]? = W.heap[g]? := fun g hg hne => ((h2 g (by omega)).1 hne).trans (hal g hg)
  have hblt : ∀ j, j < 2 → ∀ g, own (B j) = some g → base ≤ g ∧ g < W.heap.size := fun j hj g hg => (h.grow j hj).lt g hg
  have hA' : ∀ g, own A' = some g → own (B i) = some g ∨ W.heap.size + 1 ≤ g := by
    intro g hg
    rcases h4 with h4 | ⟨b, hb, hb'⟩
    · exact .inl (h4 ▸ hg)
    · rw [hb] at hg; cases hg; exact .inr hb'
  have hset : ∀ g, g ≠ w.heap.size → (W'.setCell ⟨w.heap.size, i, none⟩ (.slice A' (n i + k + 1) c')).heap[g]? = W'.heap[g]? := fun g hg => Below.heap_setCell _ _ _ _ hg
  have hfi := h.far i hi
  obtain ⟨cur, hc1, hc2, hc3⟩ := h.long
  have hm1 := (hoth w.heap.size hs hfi.2).trans hc1
  have hbW : Below base W W' := by
    have := (Below.refl base W).alloc (show base ≤ W.heap.size by omega) (.cells #[.int .i64 (appI i k)] 3)
    exact this.grown h3 (by rw [hza]; omega) (fun g hg => (hblt i hi g hg).1)
  refine ⟨(h.below.trans hbW).setCell (p := ⟨w.heap.size, i, none⟩) (by show base ≤ w.heap.size; omega) _, by simp; omega, ((hset gL (by omega)).trans (hoth gL (by omega) hfi.1)).trans h.lsB, fun j hj => ?_, ⟨_, blk_set hm1 i _, by simpa using hc2, fun j hj => ?_⟩, fun j hj => ?_, fun j j' hj hj' hne g hg => ?_, fun j hj => ?_⟩
  · have hr := (h.rows j hj).keep (W' := W.alloc (.cells #[.int .i64 (appI i k)] 3)) fun g hg => hal g ((h.rows j hj).lt g hg).2
    refine (hr.pre h2 fun e => ?_).keep fun g hg => hset g ?_
    · by_cases ej : j = i
      · subst ej; omega
      · cases hB : own (B i) with
        | none =>
          rcases h.rows j hj with ⟨_, hn0, _⟩ | ⟨g, cu, hg, _⟩
          · omega
          · rw [hg] at e; rw [hB] at e; cases e
        | some g => exact absurd (e.trans hB) (h.ne i j hi hj (fun e => ej e.symm) g hB).2
    · have := ht.lt_row j hj g hg; omega
  · by_cases ej : j = i
    · subst ej
      rw [Array.getElem?_setIfInBounds_self_of_lt (by omega), if_pos rfl, if_pos rfl, more_self, Nat.add_assoc]
    · rw [Array.getElem?_setIfInBounds_ne (Ne.symm ej), if_neg ej, if_neg ej, ← more_other ej]
      exact hc3 j hj
  · by_cases ej : j = i
    · subst ej
      simp only [if_true]
      rw [more_self, ← Nat.add_assoc]
      refine (h1.congr fun t ht' => ?_).keep fun g hg => hset g ?_
      · by_cases e : t = n j + k
        · subst e
          rw [if_pos rfl, longI, if_neg (by omega), Nat.add_sub_cancel_left]
        · rw [if_neg e]
      · rcases hA' g hg with h' | h'
        · exact fun e => hfi.2 (e ▸ h')
        · omega
    · simp only [if_neg ej]
      rw [← more_other ej]
      refine ((h.grow j hj).keep fun g hg => hoth g (hblt j hj g hg).2 fun e => (h.ne i j hi hj (fun e => ej e.symm) g e).1 hg).keep fun g hg => hset g ?_
      exact fun e => (h.far j hj).2 (e ▸ hg)
  · by_cases ej : j = i
    · subst ej
      simp only [if_true] at hg
      rw [if_neg (Ne.symm hne)]
      rcases hA' g hg with h' | h'
      · exact h.ne j j' hj hj' hne g h'
      · exact ⟨fun e => by have := (hblt j' hj' g e).2; omega, fun e => by have := ht.lt_row j' hj' g e; omega⟩
    · simp only [if_neg ej] at hg
      by_cases ej' : j' = i
      · subst ej'
        simp only [if_true]
        have := h.ne j j' hj hj' hne g hg
        refine ⟨fun e => ?_, this.2⟩
        rcases hA' g e with h' | h'
        · exact this.1 h'
        · have := (hblt j hj g hg).2; omega
      · rw [if_neg ej']
        exact h.ne j j' hj hj' hne g hg
  · by_cases ej : j = i
    · subst ej
      simp only [if_true]
      refine ⟨fun e => ?_, fun e => ?_⟩
      · rcases hA' _ e with h' | h'
        · exact hfi.1 h'
        · omega
      · rcases hA' _ e with h' | h'
        · exact hfi.2 h'
        · omega
    · simp only [if_neg ej]
      exact h.far j hj
end
section
variable {base gL oL cL : Nat} {A : Nat → Option Addr} {n c : Nat → Nat} {w W W' : World} {i k : Nat} {B : Nat → Option Addr} {d : Nat → Nat}
theorem S2.mid (h : S2 base gL A n c w B d W i k) (hi : i < 2) {x : Int} (h2 : KeepsPre (W.alloc (.cells #[.int .i64 x] 3)) W' (B i) (n i + k)) :
    W'.cell? ⟨w.heap.size, i, none⟩ = some (.slice (B i) (n i + k) (d i)) ∧ W'.frozen? ⟨w.heap.size, i, none⟩ = false := by
  have hs := h.size
  have e : W'.heap[w.heap.size]? = W.heap[w.heap.size]? := ((h2 w.heap.size (by simp; omega)).1 (h.far i hi).2).trans (Below.heap_alloc _ _ _ hs)
  have hm := h.cellM hi
  rw [more_self] at hm
  exact ⟨(World.cell?_of_block e).trans hm.1, (World.frozen?_of_block e).trans hm.2⟩
theorem S2.drew (h : S2 base gL A n c w B d W i k) : S2 base gL A n c w B d W.drew i k :=
  ⟨below_drew1 h.below, h.size, h.lsB, fun j hj => (h.rows j hj).keep fun _ _ => rfl, h.long, fun j hj => (h.grow j hj).keep fun _ _ => rfl, h.ne, h.far⟩
theorem more_two {j : Nat} (hj : j < 2) : more 2 0 j = 16 := by rw [more, if_pos hj]
end
set_option maxRecDepth 100000 in
set_option maxHeartbeats 8000000 in
theorem apart_two (gL oL cL base : Nat) (A : Nat → Option Addr) (n c : Nat → Nat) (w : World) (ht : Two base gL oL A n c w) (hc : 2 ≤ cL) :
    Calls Try.prog 13 #[.slice (some ⟨gL, oL, none⟩) 2 cL] w fun e w' => e = .returned (.bool true) ∧ Below base w w' := by
  have T := Aside0.mk ht
  clear ht
  have hmk : ∀ w_ : World, (Instr.makeSlice 29 (.int .i64 2) (.int .i64 2)).run Try.prog w_ = .ok (.slice (some ⟨w_.heap.size, 0, none⟩) 2 2) (w_.alloc (.cells #[.slice none 0 0, .slice none 0 0] 22)) := fun _ => by kernel_rfl
  go_enter Try.func13, Try.ntmps13
  go_wp2
  go_loopw [4] (fun v4 wr => ∃ i : Nat, i ≤ 2 ∧ v4 = .int .i64 i ∧ Aside0 (S1 base gL A n c w wr i 0)) (fun v _ => 2 - (intOf v).toNat)
  case atStart => exact ⟨0, by omega, rfl, ⟨S1.first T.out⟩⟩
  case round =>
    obtain ⟨i, hi2, rfl, HS⟩ := hrel
    have hw1 : wrap64 ((i : Int) + 1) = ((i + 1 : Nat) : Int) := by unfold wrap64; omega
    by_cases hi : i < 2
    · have q0 : (0 : Int) ≤ (i : Int) := by omega
      have q1 : decide ((i : Int) < 2) = true := decide_eq_true (by omega)
      have hni := T.out.few i hi
      have hm1 : wrap64 ((i : Int) * 1000003) = (i : Int) * 1000003 := by unfold wrap64; omega
      go_wp2
      go_loopw [5] (fun v5 wr => ∃ k : Nat, k ≤ n i ∧ v5 = .int .i64 k ∧ Aside0 (S1 base gL A n c w wr i k)) (fun v _ => n i - (intOf v).toNat)
      case atStart => exact ⟨0, by omega, rfl, HS⟩
      case round =>
        clear HS
        obtain ⟨k, hkn, rfl, HS⟩ := hrel
        have hw2 : wrap64 ((k : Int) + 1) = ((k + 1 : Nat) : Int) := by unfold wrap64; omega
        have hm2 : wrap64 ((i : Int) * 1000003 + (k : Int)) = markI i k := by unfold markI wrap64; omega
        by_cases hk : k < n i
        · have q2 : (0 : Int) ≤ (k : Int) := by omega
          have q3 : decide ((k : Int) < (n i : Int)) = true := decide_eq_true (by omega)
          obtain ⟨f, hf, hm⟩ := HS.out.rows
          obtain ⟨g, hg, x0, x1⟩ := (hf i hi).at_ hk
          have hLi := HS.out.cellL T.out hi
          rw [hg] at hLi
          have HG := Aside0.mk hg
          clear hf hm hg
          go_wp2
          exact ⟨⟨k + 1, by omega, by simp, ⟨HS.out.put T.out hi hk HG.out⟩⟩, by simp [intOf]; omega⟩
        · obtain rfl : k = n i := by omega
          have hLi := HS.out.cellL T.out hi
          obtain ⟨⟨u, x0⟩, x1⟩ := HS.out.cellM hi
          go_wp2
          exact ⟨⟨i + 1, by omega, by simp, ⟨HS.out.next T.out hi⟩⟩, by simp [intOf]; omega⟩
    · obtain rfl : i = 2 := by omega
      have HS2 := Aside0.mk (S2.first HS.out T.out)
      clear HS
      go_wp2
      go_loopw [6] (fun v6 wr => ∃ (i : Nat) (B : Nat → Option Addr) (d : Nat → Nat), i ≤ 2 ∧ v6 = .int .i64 i ∧ Aside0 (S2 base gL A n c w B d wr i 0)) (fun v _ => 2 - (intOf v).toNat)
      case atStart => exact ⟨0, A, c, by omega, rfl, HS2⟩
      case round =>
        clear HS2
        obtain ⟨i, B, d, hi2, rfl, HS⟩ := hrel
        have hw1 : wrap64 ((i : Int) + 1) = ((i + 1 : Nat) : Int) := by unfold wrap64; omega
        by_cases hi : i < 2
        · have q0 : (0 : Int) ≤ (i : Int) := by omega
          have q1 : decide ((i : Int) < 2) = true := decide_eq_true (by omega)
          have hni := T.out.few i hi
          have hm1 : wrap64 (-(i : Int)) = -(i : Int) := by unfold wrap64; omega
          have hm2 : wrap64 (-(i : Int) * 1000003) = -(i : Int) * 1000003 := by unfold wrap64; omega
          go_wp2
          go_loopw [7] (fun v7 wr => ∃ (k : Nat) (B : Nat → Option Addr) (d : Nat → Nat), k ≤ 16 ∧ v7 = .int .i64 k ∧ Aside0 (S2 base gL A n c w B d wr i k)) (fun v _ => 16 - (intOf v).toNat)
          case atStart => exact ⟨0, B, d, by omega, rfl, HS⟩
          case round =>
            clear HS
            obtain ⟨k, B, d, hk2, rfl, HS⟩ := hrel
            have hw2 : wrap64 ((k : Int) + 1) = ((k + 1 : Nat) : Int) := by unfold wrap64; omega
            by_cases hk : k < 16
            · have q2 : (0 : Int) ≤ (k : Int) := by omega
              have q3 : decide ((k : Int) < 16) = true := decide_eq_true (by omega)
              have hm3 : wrap64 (-(i : Int) * 1000003 - (k : Int)) = -(i : Int) * 1000003 - (k : Int) := by unfold wrap64; omega
              have hm4 : wrap64 (-(i : Int) * 1000003 - (k : Int) - 1) = appI i k := by unfold wrap64 appI; omega
              obtain ⟨x0, x1⟩ := HS.out.cellM hi
              rw [more_self] at x0
              have hg := HS.out.grow i hi
              rw [more_self] at hg
              have HG := Aside0.mk hg
              have hbs : base ≤ wr.heap.size := by have := HS.out.size; have := T.out.le; have := T.out.lt; omega
              clear hg
              go_wp2_with ((with_reducible refine gate_builtin (b := .append) (xs := #[.tmp 61, .tmp 68]) rfl ?_); at_builtin; refine append_walk rfl (.tmp 61) (.tmp 68) rfl HG.out hbs (by omega) (appI i k) rfl rfl ?_; intro A' c' W' g1 g2 g3 g4; have y0 := (HS.out.mid hi g2).1; have y1 := (HS.out.mid hi g2).2; have G1 := Aside0.mk g1; have G2 := Aside0.mk g2; have G3 := Aside0.mk g3; have G4 := Aside0.mk g4; clear g1 g2 g3 g4 x0 x1)
              go_roundw
              case rel =>
                have R := HS.out.app T.out hi G1.out G2.out G3.out G4.out
                first
                  | exact ⟨k + 1, _, _, by omega, by first | rfl | (rw [hw2]; done) | (simp; done) | go_num, ⟨R⟩⟩
                  | ((repeat apply Exists.intro); exact ⟨⟨k + 1, _, _, by omega, by first | rfl | (rw [hw2]; done) | (simp; done) | go_num, ⟨R⟩⟩, rfl⟩)
                  | trace_state
              case measure => simp [intOf]; omega
            · obtain rfl : k = 16 := by omega
              have HS' := Aside0.mk HS.out.next
              clear HS
              go_wp2
              exact ⟨⟨i + 1, B, d, by omega, by simp, HS'⟩, by simp [intOf]; omega⟩
        · obtain rfl : i = 2 := by omega
          go_wp2
          go_loopw [8] (fun v8 wr => ∃ i : Nat, i ≤ 2 ∧ v8 = .int .i64 i ∧ Aside0 (S2 base gL A n c w B d wr 2 0)) (fun v _ => 2 - (intOf v).toNat)
          case atStart => exact ⟨0, by omega, rfl, HS⟩
          case round =>
            clear HS
            obtain ⟨i, hi2, rfl, HS⟩ := hrel
            have hw1 : wrap64 ((i : Int) + 1) = ((i + 1 : Nat) : Int) := by unfold wrap64; omega
            by_cases hi : i < 2
            · have q0 : (0 : Int) ≤ (i : Int) := by omega
              have q1 : decide ((i : Int) < 2) = true := decide_eq_true (by omega)
              have hni := T.out.few i hi
              have hm1 : wrap64 ((i : Int) * 1000003) = (i : Int) * 1000003 := by unfold wrap64; omega
              go_wp2
              go_loopw [9] (fun v9 wr => ∃ k : Nat, k ≤ n i ∧ v9 = .int .i64 k ∧ Aside0 (S2 base gL A n c w B d wr 2 0)) (fun v _ => n i - (intOf v).toNat)
              case atStart => exact ⟨0, by omega, rfl, HS⟩
              case round =>
                clear HS
                obtain ⟨k, hkn, rfl, HS⟩ := hrel
                have hw2 : wrap64 ((k : Int) + 1) = ((k + 1 : Nat) : Int) := by unfold wrap64; omega
                have hm2 : wrap64 ((i : Int) * 1000003 + (k : Int)) = (i : Int) * 1000003 + (k : Int) := by unfold wrap64; omega
                have hLi := HS.out.cellL T.out hi
                have hMi := (HS.out.cellM hi).1
                rw [more_two hi] at hMi
                by_cases hk : k < n i
                · have q2 : (0 : Int) ≤ (k : Int) := by omega
                  have q3 : decide ((k : Int) < (n i : Int)) = true := decide_eq_true (by omega)
                  obtain ⟨g, hg, x0, _⟩ := (HS.out.rows i hi).at_ hk
                  have hgr := HS.out.grow i hi
                  rw [more_two hi] at hgr
                  obtain ⟨g', hg', z0, _⟩ := hgr.at_ (t := k) (by omega)
                  rw [longI, if_pos hk] at z0
                  rw [hg] at hLi
                  rw [hg'] at hMi
                  have x0' : wr.cell? ⟨g, k, none⟩ = some (.int .i64 ((i : Int) * 1000003 + (k : Int))) := x0
                  have z0' : wr.cell? ⟨g', k, none⟩ = some (.int .i64 ((i : Int) * 1000003 + (k : Int))) := z0
                  have q4 : (k : Int) < (n i : Int) + 16 := by omega
                  clear hg hg' x0 z0 hgr
                  go_wp2
                  exact ⟨⟨k + 1, by omega, by simp, HS⟩, by simp [intOf]; omega⟩
                · obtain rfl : k = n i := by omega
                  clear hMi
                  go_wp2
                  go_loopw [10] (fun v10 wr => ∃ k : Nat, k ≤ 16 ∧ v10 = .int .i64 k ∧ Aside0 (S2 base gL A n c w B d wr 2 0)) (fun v _ => 16 - (intOf v).toNat)
                  case atStart => exact ⟨0, by omega, rfl, HS⟩
                  case round =>
                    clear HS hLi
                    obtain ⟨k, hkn, rfl, HS⟩ := hrel
                    have hw3 : wrap64 ((k : Int) + 1) = ((k + 1 : Nat) : Int) := by unfold wrap64; omega
                    have hLi := HS.out.cellL T.out hi
                    have hMi := (HS.out.cellM hi).1
                    rw [more_two hi] at hMi
                    by_cases hk : k < 16
                    · have q2 : (0 : Int) ≤ (k : Int) := by omega
                      have q3 : decide ((k : Int) < 16) = true := decide_eq_true (by omega)
                      have qi : (i : Int) < 2 := by omega
                      have q4 : ((n i : Int) + (k : Int)) < (n i : Int) + 16 := by omega
                      have q5 : (0 : Int) ≤ (n i : Int) + (k : Int) := by omega
                      have q6 : ((n i : Int) + (k : Int)).toNat = n i + k := by omega
                      have q7 : n i + k < n i + 16 := by omega
                      have q8 : ¬ (n i + k < n i) := by omega
                      have hw4 : wrap64 ((n i : Int) + (k : Int)) = (n i : Int) + (k : Int) := w64' (by omega) (by omega)
                      have hm5 : wrap64 (-(i : Int)) = -(i : Int) := w64' (by clear hw4 HS; omega) (by clear hw4 HS; omega)
                      have hm6 : wrap64 (-(i : Int) * 1000003) = -(i : Int) * 1000003 := w64' (by clear hw4 HS; omega) (by clear hw4 HS; omega)
                      have hm7 : wrap64 (-(i : Int) * 1000003 - (k : Int)) = -(i : Int) * 1000003 - (k : Int) := w64' (by clear hw4 HS; omega) (by clear hw4 HS; omega)
                      have hm8 : wrap64 (-(i : Int) * 1000003 - (k : Int) - 1) = -(i : Int) * 1000003 - (k : Int) - 1 := w64' (by clear hw4 HS; omega) (by clear hw4 HS; omega)
                      have hgr := HS.out.grow i hi
                      rw [more_two hi] at hgr
                      obtain ⟨g', hg', z0, _⟩ := hgr.at_ (t := n i + k) q7
                      rw [longI, if_neg q8, Nat.add_sub_cancel_left] at z0
                      rw [hg'] at hMi
                      have z0' : wr.cell? ⟨g', n i + k, none⟩ = some (.int .i64 (-(i : Int) * 1000003 - (k : Int) - 1)) := z0
                      have iw := wrap_i64
                      have hw5 : IntKind.i64.wrap ((n i : Int) + (k : Int)) = (n i : Int) + (k : Int) := (iw _).trans hw4
                      have hn5 : IntKind.i64.wrap (-(i : Int)) = -(i : Int) := (iw _).trans hm5
                      have hn6 : IntKind.i64.wrap (-(i : Int) * 1000003) = -(i : Int) * 1000003 := (iw _).trans hm6
                      have hn7 : IntKind.i64.wrap (-(i : Int) * 1000003 - (k : Int)) = -(i : Int) * 1000003 - (k : Int) := (iw _).trans hm7
                      have hn8 : IntKind.i64.wrap (-(i : Int) * 1000003 - (k : Int) - 1) = -(i : Int) * 1000003 - (k : Int) - 1 := (iw _).trans hm8
                      clear iw hg' z0 hgr q7 q8
                      go_wp2
                      go_region_held3 (fun W' => S2 base gL A n c w B d W' 2 0 ∧ W'.cell? ⟨gL, oL + i, none⟩ = some (.slice (A i) (n i) (c i)) ∧ W'.cell? ⟨w.heap.size, i, none⟩ = some (.slice (some ⟨g', 0, none⟩) (n i + 16) (d i)) ∧ W'.cell? ⟨g', n i + k, none⟩ = some (.int .i64 (-(i : Int) * 1000003 - (k : Int) - 1))) ((first | assumption | exact ⟨HS.out.drew, hLi, hMi, z0'⟩)) (fail)
                      all_goals go_wp2
                      all_goals clear hw4 hw5 hm5 hm6 hm7 hm8 hn5 hn6 hn7 hn8
                      all_goals exact ⟨⟨k + 1, by omega, by simp, ⟨HS.out.drew⟩⟩, by simp [intOf]; omega⟩
                    · obtain rfl : k = 16 := by omega
                      go_wp2
                      exact ⟨⟨i + 1, by omega, by simp, HS⟩, by simp [intOf]; omega⟩
            · obtain rfl : i = 2 := by omega
              go_wp2
              go_ret
              exact ⟨rfl, HS.out.below⟩
end Go.Proofs.Ytbolppjlaipfjaa.X
end
section
set_option linter.unusedSectionVars false
set_option linter.unusedSimpArgs false
set_option linter.unusedVariables false
namespace Go.Proofs.Ytbolppjlaipfjaa.Ex
open Go
set_option linter.unusedVariables false
set_option linter.unusedSimpArgs false
section
variable {P : Program}
def opsTo (P : Program) (call : CallF) (all : Array Oper) : Nat → List Oper → Fr → Hp → List Nat → M (Fr × Hp × List Nat)
  | 0, _, fr, hp, wr => ret (fr, hp, wr)
  | _, [], _, _, _ => stop
  | k + 1, o :: os, fr, hp, wr => (wantA all fr o).bind fun b =>
      if b = true then (opS P call fr hp o).bind fun r => opsTo P call all k os (putT fr o.dst r.v) r.hp (r.wr ++ wr)
      else opsTo P call all k os (putT fr o.dst undef) hp wr
def OpsToSpec (P : Program) (all : Array Oper) (k : Nat) (os : List Oper) (fr : Fr) (hp : Hp) (wr : List Nat) (fr' : Fr) (hp' : Hp) (wr' : List Nat) : Prop :=
  ∀ w0 ν0 m ν wx (a : Act) w (Q : Exit → Act → World → Prop), Inv P w0 ν0 m ν hp (wr ++ wx) w → FrRel ν fr a.tmps →
    (∀ ν' (a' : Act) w', Inv P w0 ν0 m ν' hp' (wr' ++ wx) w' → FrRel ν' fr' a'.tmps → a'.defers = a.defers → wpList P all Q (os.drop k) a' w') → wpList P all Q os a w
theorem opsTo_sat {call : CallF} (hN : Named P) (hcall : Sound P call) {all : Array Oper} : ∀ (k : Nat) (os : List Oper) (fr : Fr) (hp : Hp) (wr : List Nat),
    Sat (opsTo P call all k os fr hp wr) fun r => OpsToSpec P all k os fr hp wr r.1 r.2.1 r.2.2
  | 0, os, fr, hp, wr => by
    unfold opsTo
    exact Sat.ret _ fun w0 ν0 m ν wx a w Q hi hfr hQ => hQ ν a w hi hfr rfl
  | k + 1, [], fr, hp, wr => Sat.stop
  | k + 1, o :: os, fr, hp, wr => by
    unfold opsTo
    refine Sat.bind want_sat fun b hb => ?_
    split
    · rename_i hbt
      subst hbt
      have hop : Sat (opS P call fr hp o) (OpOk P (List.range hp.length ++ footA P fr hp o) fr hp o) :=
        opS_sat hN (fun g args hids => hcall _ g args hp hids) fun id hid => List.mem_append.2 (.inr hid)
      refine Sat.bind hop fun r hr => (opsTo_sat hN hcall k os _ _ _).mono fun q hq => ?_
      intro w0 ν0 m ν wx a w Q hi hfr hQ
      unfold wpList
      rw [if_pos (hb ν a.tmps hfr)]
      refine .inl (hr.2 ν a w (fun x _ v hv => val_eval hfr hv) (hi.rep.pre _) _ _ fun ν' v' w' hp' hv' => ?_)
      have hi' := hi.step hr.1 (fun id hid => List.mem_append.2 (.inl (List.mem_range.2 hid))) hp'
      rw [← List.append_assoc] at hi'
      exact hq w0 ν0 m ν' wx _ w' Q hi' ((hfr.le (Post.le (hi.rep.pre _) hp')).put hv') fun ν2 a2 w2 k1 k2 k3 => hQ ν2 a2 w2 k1 k2 (k3.trans put_defers)
    · rename_i hbf
      have hbf : b = false := by simpa using hbf
      subst hbf
      refine (opsTo_sat hN hcall k os _ _ _).mono fun q hq => ?_
      intro w0 ν0 m ν wx a w Q hi hfr hQ
      unfold wpList
      rw [if_neg (by rw [hb ν a.tmps hfr]; simp)]
      exact hq w0 ν0 m ν wx _ w Q hi (hfr.put ⟨#[], rfl, .nil⟩) fun ν2 a2 w2 k1 k2 k3 => hQ ν2 a2 w2 k1 k2 (k3.trans put_defers)
theorem sound_exec (hN : Named P) (hC : Calm P) (hm : P.follows .mixedOrders = true) (n : Nat) : Sound P (callA P (toldA P (exec P n))) := by
  have told : ∀ g args hp, Sat (toldA P (exec P n) g args hp) (CallSpec P g args hp) := by
    intro g args hp o r he hg
    unfold toldA at he
    split at he
    · cases he
      exact hg.2 _ (by simp)
    · cases he
    · exact exec_ok hN hC hm n g args hp _ _ he hg
    · exact exec_ok hN hC hm n g args hp _ _ he hg
  exact fun F g args hp hF => call_sat (fun args hp => told g args hp) hF
end
noncomputable def rg6 : Code := regAt Try.prog 3 6
theorem rg6_eq : rg6 = .region 6 (opsOf rg6) false := by kernel_rfl
theorem rg6_list : (opsOf rg6).toList = [opOf rg6 0, opOf rg6 1, opOf rg6 2, opOf rg6 3, opOf rg6 4, opOf rg6 5, opOf rg6 6, opOf rg6 7] := by kernel_rfl
def Fld (hp : Hp) (u : Value) (id n : Nat) : Prop := (u = slN ∧ n = 0) ∨ ∃ l c, u = slB id n c ∧ hp.getD id .dead = .own 3 (iW l) ∧ l.length = n ∧ 1 ≤ n
theorem iW_getI {l : List Int} {t : Nat} (h : t < l.length) : (iW l)[t]? = some (.int .i64 (l.getD t 0)) := by
  unfold iW
  rw [List.getElem?_map, List.getElem?_eq_getElem h, List.getD_eq_getElem?_getD, List.getElem?_eq_getElem h]
  rfl
theorem und3 : Try.prog.underlying 3 ≠ some (.int .u8) := by
  have : (match Try.prog.underlying 3 with | some (.int .u8) => false | _ => true) = true := by kernel_rfl
  intro h
  rw [h] at this
  cases this
theorem sz3 : sz Try.prog 3 = some 1 := by kernel_rfl
theorem sz22 : sz Try.prog 22 = some 1 := by kernel_rfl
theorem L2.getL {α β : Type} {R : α → β → Prop} : ∀ {l : List α} {m : List β}, L2 R l m → ∀ {i : Nat} {x : α}, l[i]? = some x → ∃ y, m[i]? = some y ∧ R x y
  | _, _, .nil, i, x, h => by simp at h
  | _, _, .cons (a := a) (b := b) hab hlm, i, x, h => by
    cases i with
    | zero => exact ⟨b, rfl, by simp at h; rw [← h]; exact hab⟩
    | succ i => exact hlm.getL (i := i) (by simpa using h)
theorem Fld.row {w0 : World} {ν0 ν : Nu} {hp : Hp} {wr : List Nat} {w : World} (hi : Inv Try.prog w0 ν0 0 ν hp wr w) {u v : Value} {id n : Nat} (hf : Fld hp u id n) (hv : VR1 ν u v) :
    ∃ A c f, v = .slice A n c ∧ X.RowI w w0.heap.size A n c f ∧ (∀ g, X.own A = some g → ∃ N, ν id = some N ∧ N.g = g ∧ (hp.getD id .dead).isOwn = true) := by
  rcases hf with ⟨rfl, rfl⟩ | ⟨l, c, rfl, hb, hl, hn⟩
  · have : v = .slice none 0 0 := hv
    subst this
    exact ⟨none, 0, fun _ => 0, rfl, .inl ⟨rfl, rfl, rfl⟩, fun g hg => by cases hg⟩
  · obtain ⟨a', cap', rfl, h1, h2, h3⟩ := hv
    obtain ⟨N, hN, _, rfl, h4⟩ := h3 (by omega)
    have hr := hi.rep.blk id
    rw [hb] at hr
    obtain ⟨g, cur, lo, hi', k1, k2, k3, k4, k5⟩ := hr
    rw [sz3] at k1
    have k1' : ν id = some ⟨g, 0, cur.size, 1⟩ := k1
    have hN' : ν id = some N := hN
    rw [k1'] at hN'
    obtain rfl : (⟨g, 0, cur.size, 1⟩ : Nm) = N := by simpa using hN'
    obtain ⟨rfl, rfl⟩ := k3.2 und3
    have hfr := hi.fresh id _ (Nat.zero_le _) (by rw [hb]; rfl) k1'
    have hge : w0.heap.size ≤ g := by
      rcases hfr with h | ⟨j, K, hj, _⟩
      · exact h
      · omega
    have h4' : cap' = cur.size := by simpa using h4
    subst h4'
    refine ⟨some ⟨g, 0, none⟩, cur.size, fun t => l.getD t 0, rfl, .inr ⟨g, cur, rfl, hge, k2, by omega, trivial, rfl, fun t ht => ?_⟩, fun g' hg => ⟨_, k1', by simpa [X.own] using hg, by rw [hb]; rfl⟩⟩
    obtain ⟨y, e1, e2, e3⟩ := k5.getL (iW_getI (l := l) (t := t) (by omega))
    have hy : y = .int .i64 (l.getD t 0) := e2
    subst hy
    rw [List.getElem?_take] at e1
    split at e1
    · rwa [Array.getElem?_toList] at e1
    · cases e1
theorem two_of {w0 : World} {ν0 ν : Nu} {hp : Hp} {wr : List Nat} {w : World} (hi : Inv Try.prog w0 ν0 0 ν hp wr w) {u0 u1 v : Value} {i0 i1 k n0 n1 : Nat} (hk : hp.getD k .dead = .own 22 [u0, u1])
    (h0 : Fld hp u0 i0 n0) (h1 : Fld hp u1 i1 n1) (hne : i0 ≠ i1) (hk0 : i0 ≠ k) (hk1 : i1 ≠ k) (hn0 : n0 ≤ 1000000) (hn1 : n1 ≤ 1000000) (hv : VR ν (slB k 2 2) v) :
    ∃ gL cL A n c, v = .slice (some ⟨gL, 0, none⟩) 2 cL ∧ 2 ≤ cL ∧ X.Two w0.heap.size gL 0 A n c w := by
  obtain ⟨a', cap', rfl, e1, e2, e3⟩ := (show VR0 ν (slB k 2 2) v from hv)
  obtain ⟨N, hN, _, rfl, _⟩ := e3 (by omega)
  have hr := hi.rep.blk k
  rw [hk] at hr
  obtain ⟨g, cur, lo, hi', k1, k2, k3, k4, k5⟩ := hr
  rw [sz22] at k1
  have k1' : ν k = some ⟨g, 0, cur.size, 1⟩ := k1
  have hN' : ν k = some N := hN
  rw [k1'] at hN'
  obtain rfl : (⟨g, 0, cur.size, 1⟩ : Nm) = N := by simpa using hN'
  have hge : w0.heap.size ≤ g := by
    rcases hi.fresh k _ (Nat.zero_le _) (by rw [hk]; rfl) k1' with h | ⟨j, K, hj, _⟩
    · exact h
    · omega
  obtain ⟨y0, f0, r0, _⟩ := k5.getL (i := 0) (x := u0) rfl
  obtain ⟨y1, f1, r1, _⟩ := k5.getL (i := 1) (x := u1) rfl
  obtain ⟨A0, c0, p0, rfl, R0, o0⟩ := h0.row hi r0
  obtain ⟨A1, c1, p1, rfl, R1, o1⟩ := h1.row hi r1
  have cell : ∀ j y, (cur.toList.take ([u0, u1] : List Value).length)[j]? = some y → w.cell? ⟨g, 0 + j, none⟩ = some y := by
    intro j y h
    rw [List.getElem?_take] at h
    split at h
    · rw [Array.getElem?_toList] at h
      simp [World.cell?, k2, h]
    · cases h
  have live : ∀ {b : Blk}, b.isOwn = true → b.live = true := fun {b} h => by cases b <;> first | rfl | cases h
  have hkl : (hp.getD k .dead).live = true := by rw [hk]; rfl
  refine ⟨g, cap', fun j => if j = 0 then A0 else A1, fun j => if j = 0 then n0 else n1, fun j => if j = 0 then c0 else c1, rfl, by omega, hge, (Array.getElem?_eq_some_iff.1 k2).1, fun j hj => ?_, fun j hj => ?_, fun j hj => ?_, fun g' hg hg' => ?_, fun j hj => ?_⟩
  · rcases (show j = 0 ∨ j = 1 by omega) with rfl | rfl
    · exact cell 0 _ f0
    · exact cell 1 _ f1
  · rcases (show j = 0 ∨ j = 1 by omega) with rfl | rfl
    · exact ⟨p0, R0⟩
    · exact ⟨p1, R1⟩
  · rcases (show j = 0 ∨ j = 1 by omega) with rfl | rfl
    · intro e
      obtain ⟨N, q1, q2, q3⟩ := o0 g e
      exact hi.rep.sep i0 k N _ hk0 q3 hkl q1 k1' q2
    · intro e
      obtain ⟨N, q1, q2, q3⟩ := o1 g e
      exact hi.rep.sep i1 k N _ hk1 q3 hkl q1 k1' q2
  · obtain ⟨N, q1, q2, q3⟩ := o0 g' hg
    obtain ⟨K, s1, s2, s3⟩ := o1 g' hg'
    exact hi.rep.sep i0 i1 N K hne q3 (live s3) q1 s1 (q2.trans s2.symm)
  · rcases (show j = 0 ∨ j = 1 by omega) with rfl | rfl
    · exact hn0
    · exact hn1
theorem inv_none {w0 : World} {ν0 ν : Nu} {hp : Hp} {wr wx : List Nat} {w w2 : World} (hi : Inv Try.prog w0 ν0 0 ν hp wr w) (hB : RowKit.Below w0.heap.size w w2) : Inv Try.prog w0 ν0 0 (fun _ => none) [] wx w2 :=
  ⟨rep_none w2, Nat.zero_le _, fun _ h => absurd h (Nat.not_lt_zero _), hB.os.trans hi.os, hB.tape.trans hi.tape, hB.output.trans hi.output, Nat.le_trans hi.size hB.size,
    fun g hg _ => (hB.block g hg).trans (hi.frame g hg fun _ _ h => absurd h (Nat.not_lt_zero _)), fun id N _ h => by simp [Blk.live] at h⟩
theorem rg6_told {fr fr' : Fr} {hp hp' : Hp} {wr : List Nat} {u0 u1 : Value} {i0 i1 k n0 n1 : Nat} (hn : fr'.n = 72) (hS : OpsToSpec Try.prog (opsOf rg6) 5 (opsOf rg6).toList fr hp [] fr' hp' wr)
    (g66 : fr'.get 66 = some (.bool true)) (g69 : fr'.get 69 = some (slB k 2 2)) (hk : hp'.getD k .dead = .own 22 [u0, u1])
    (h0 : Fld hp' u0 i0 n0) (h1 : Fld hp' u1 i1 n1) (hne : i0 ≠ i1) (hk0 : i0 ≠ k) (hk1 : i1 ≠ k) (hn0 : n0 ≤ 1000000) (hn1 : n1 ≤ 1000000) :
    CodeSpec Try.prog 0 rg6 fr hp ⟨.normal, frOf 72 [(4, .bool true)], [], []⟩ := by
  intro w0 ν0 ν wx a w Q hi hfr hQ
  rw [rg6_eq]
  refine wp_region_list (hS w0 ν0 0 ν wx a w Q hi hfr fun ν' a' w' hi' hfr' hd' => ?_)
  rw [rg6_list]
  have o5 : (opOf rg6 5).op = .call { callee := .value (.func 13), args := #[.tmp 69], argTypes := #[29] } := by kernel_rfl
  have o6 : (opOf rg6 6).op = .pick (.tmp 66) (.tmp 70) (.const (.bool false)) := by kernel_rfl
  have o7 : (opOf rg6 7).op = .assign (.tmp 71) := by kernel_rfl
  have d5 : (opOf rg6 5).dst = some 70 := by kernel_rfl
  have d6 : (opOf rg6 6).dst = some 71 := by kernel_rfl
  have d7 : (opOf rg6 7).dst = some 4 := by kernel_rfl
  have n6 : (opOf rg6 6).guard = none := by kernel_rfl
  have n7 : (opOf rg6 7).guard = none := by kernel_rfl
  have n5 : (opOf rg6 5).guard = some (1, true) := by kernel_rfl
  have d1 : ((opsOf rg6)[1]?).bind (·.dst) = some 66 := by kernel_rfl
  obtain ⟨b66, x66, rfl⟩ := hfr'.2 66 _ g66
  obtain ⟨v69, x69, r69⟩ := hfr'.2 69 _ g69
  obtain ⟨gL, cL, A, n, c, rfl, hc, ht⟩ := two_of hi' hk h0 h1 hne hk0 hk1 hn0 hn1 r69
  have hsz : a'.tmps.size = 72 := by rw [← hfr'.1, hn]
  have hcall := X.apart_two gL 0 cL w0.heap.size A n c w' ht hc
  show wpList Try.prog (opsOf rg6) Q [opOf rg6 5, opOf rg6 6, opOf rg6 7] a' w'
  unfold wpList
  have w5 : Region.wanted (opOf rg6 5) (yielded (opsOf rg6) a'.tmps) = true := by
    simp [Region.wanted, n5, yielded, d1, x66]
  rw [if_pos w5]
  refine .inl ?_
  have hrun : (execOp a'.eval (opOf rg6 5)).run Try.prog w' = .ok (.enter 13 #[.slice (some ⟨gL, 0, none⟩) 2 cL]) w' := by
    simp only [execOp, o5, resolve, Act.eval, Deferred.ofValue, invoke, Sem.run_bind, Sem.run_pure, Result.andThen_ok, callFunc_run tnamed (show bodied Try.prog 13 = true by kernel_rfl)]
    simp [Act.eval, x69]
  unfold Oper.wp
  rw [hrun, Oper.upon_enter]
  refine hcall.mono fun e w2 ⟨he, hB⟩ => ?_
  subst he
  dsimp only
  unfold wpList
  have w6 : ∀ tm, Region.wanted (opOf rg6 6) (yielded (opsOf rg6) tm) = true := fun tm => by simp [Region.wanted, n6]
  have w7 : ∀ tm, Region.wanted (opOf rg6 7) (yielded (opsOf rg6) tm) = true := fun tm => by simp [Region.wanted, n7]
  rw [if_pos (w6 _)]
  refine .inl ?_
  have hs1 : (a'.put (opOf rg6 5).dst (.bool true)).tmps.size = 72 := by rw [put_size, hsz]
  have e66 : (a'.put (opOf rg6 5).dst (.bool true)).eval (.tmp 66) = .bool true := by
    rw [d5]
    simp [Act.eval, Act.put, x66]
  have e70 : (a'.put (opOf rg6 5).dst (.bool true)).eval (.tmp 70) = .bool true := by
    rw [d5]
    simp [Act.eval, Act.put, hsz]
  generalize ha1 : a'.put (opOf rg6 5).dst (.bool true) = a1 at hs1 e66 e70
  have hd1 : a1.defers = a'.defers := by rw [← ha1, put_defers]
  have hr6 : (execOp a1.eval (opOf rg6 6)).run Try.prog w2 = .ok (.value (.bool true)) w2 := by
    simp [execOp, o6, e66, e70, asBool]
  unfold Oper.wp
  rw [hr6, Oper.upon_value]
  unfold wpList
  rw [if_pos (w7 _)]
  refine .inl ?_
  have hs2 : (a1.put (opOf rg6 6).dst (.bool true)).tmps.size = 72 := by rw [put_size, hs1]
  have e71 : (a1.put (opOf rg6 6).dst (.bool true)).eval (.tmp 71) = .bool true := by
    rw [d6]
    simp [Act.eval, Act.put, hs1]
  generalize ha2 : a1.put (opOf rg6 6).dst (.bool true) = a2 at hs2 e71
  have hd2 : a2.defers = a1.defers := by rw [← ha2, put_defers]
  have hr7 : (execOp a2.eval (opOf rg6 7)).run Try.prog w2 = .ok (.value (.bool true)) w2 := by
    simp [execOp, o7, e71]
  unfold Oper.wp
  rw [hr7, Oper.upon_value]
  unfold wpList
  refine hQ _ _ w2 (inv_none hi' hB) ?_ (by rw [put_defers, hd2, hd1, hd'])
  rw [d7]
  exact FrRel.put (d := some 4) (v := .bool true) (frRel_empty hs2) rfl
def awT : Res := ⟨.bool true, [], []⟩
def frAp (u0 u1 : Value) : Fr := frOf 72 [(5, u0), (8, u1)]
def frBp (u0 u1 : Value) (k : Nat) : Fr := (((((frAp u0 u1).set 65 (some (.bool true))).set 66 (some (.bool true))).set 67 (some u0)).set 68 (some u1)).set 69 (some (slB k 2 2))
theorem rg6_two_run (n : Nat) (cs ds : List Value) : go (opsTo Try.prog (callA Try.prog (toldA Try.prog (exec Try.prog 8))) (opsOf rg6) 5 (opsOf rg6).toList (frAp (slB 0 n n) (slB 1 n n)) [.own 3 cs, .own 3 ds] []) [(0, .call awT)] =
    some ((frBp (slB 0 n n) (slB 1 n n) 2, [.own 3 cs, .own 3 ds, .own 22 [slB 0 n n, slB 1 n n]], []), true, [CallSpec Try.prog 12 [] [] awT]) := by kernel_rfl
theorem rg6_nil_run : go (opsTo Try.prog (callA Try.prog (toldA Try.prog (exec Try.prog 8))) (opsOf rg6) 5 (opsOf rg6).toList (frAp slN slN) [] []) [(0, .call awT)] =
    some ((frBp slN slN 0, [.own 22 [slN, slN]], []), true, [CallSpec Try.prog 12 [] [] awT]) := by kernel_rfl
theorem rg6_two {l : List Int} {n : Nat} (hl : l.length = n) (h1 : 1 ≤ n) (hn : n ≤ 1000000) : CodeSpec Try.prog 0 rg6 (frAp (slB 0 n n) (slB 1 n n)) [.own 3 (iW l), .own 3 (iW l)] ⟨.normal, frOf 72 [(4, .bool true)], [], []⟩ :=
  rg6_told (u0 := slB 0 n n) (u1 := slB 1 n n) (i0 := 0) (i1 := 1) (k := 2) (n0 := n) (n1 := n) rfl (go_ok (opsTo_sat tnamed (sound_exec tnamed tcalm tmixed 8) _ _ _ _ _) (rg6_two_run n _ _) (all_cons awake_done all_nil)) rfl rfl rfl
    (.inr ⟨l, n, rfl, rfl, hl, h1⟩) (.inr ⟨l, n, rfl, rfl, hl, h1⟩) (by decide) (by decide) (by decide) hn hn
theorem rg6_nil : CodeSpec Try.prog 0 rg6 (frAp slN slN) [] ⟨.normal, frOf 72 [(4, .bool true)], [], []⟩ :=
  rg6_told (u0 := slN) (u1 := slN) (i0 := 1) (i1 := 2) (k := 0) (n0 := 0) (n1 := 0) rfl (go_ok (opsTo_sat tnamed (sound_exec tnamed tcalm tmixed 8) _ _ _ _ _) rg6_nil_run (all_cons awake_done all_nil)) rfl rfl rfl
    (.inl ⟨rfl, rfl⟩) (.inl ⟨rfl, rfl⟩) (by decide) (by decide) (by decide) (by decide) (by decide)
end Go.Proofs.Ytbolppjlaipfjaa.Ex
end
section
set_option linter.unusedSectionVars false
set_option linter.unusedSimpArgs false
set_option linter.unusedVariables false
namespace Go.Proofs.Ytbolppjlaipfjaa.Ex
open Go
set_option linter.unusedVariables false
end Go.Proofs.Ytbolppjlaipfjaa.Ex
end
section
set_option linter.unusedSectionVars false
set_option linter.unusedSimpArgs false
set_option linter.unusedVariables false
namespace Go.Proofs.Ytbolppjlaipfjaa.Ex
open Go
set_option linter.unusedVariables false
end Go.Proofs.Ytbolppjlaipfjaa.Ex
end
section
set_option linter.unusedSectionVars false
set_option linter.unusedSimpArgs false
set_option linter.unusedVariables false
namespace Go.Proofs.Ytbolppjlaipfjaa.Ex
open Go
set_option linter.unusedVariables false
def endA : Out := ⟨.normal, frOf 72 [(4, .bool true)], [], []⟩
section
variable (sn e : Int) (s : ByteArray) (kA : CallSpec Try.prog 9 [.int .u8 sn, .string s] [] (.mk (.tuple #[slN, .bool false, .int .i64 e]) [] [])) (kB : CallSpec Try.prog 10 [.int .u8 sn, .string s] [] (.mk (.tuple #[slN, .bool false, .int .i64 e]) [] []))
include sn e s kA kB
theorem sr_n_p : go (exec (Try.prog) (8) (3) ([.int .u8 sn, .string s]) ([])) [(5, .call (.mk (.tuple #[zSN, .bool false, .int .i64 e]) [] [])), (12, .call (.mk (.tuple #[zSN, .bool false, .int .i64 e]) [] [])), (12, .call (.mk (.tuple #[zSN, .bool false, .int .i64 e]) [] [])), (32, .dec false), (1, .dec false), (1, .dec false), (1, .dec false), (2, .dec false), (1, .dec false), (1, .dec false), (0, .call (.mk (.bool true) [] [])), (2, .dec false), (1, .dec false), (7, .call (.mk (.bool true) [] [])), (8, Itm.loop [5, 8] (Out.mk Xt.normal (frOf 72 [(4, .bool true)]) [] []))] = some (.mk (.bool true) [] [], true, [type_of% kA, type_of% kA, type_of% kB, (!decide (e = e)) = false, (!decide (e = e)) = false, (!decide (e = e)) = false, (!decide (e = e)) = false, (!decide (e = e)) = false, (!decide (e = e)) = false, (!decide (e = e)) = false, CallSpec Try.prog 11 [zSN, zSN] [] (.mk (.bool true) [] []), (!decide (e = e)) = false, (!decide (e = e)) = false, CallSpec Try.prog 11 [zSN, zSN] [] (.mk (.bool true) [] []), CodeSpec Try.prog 0 rg6 (frOf 72 [(5, zSN), (8, zSN)]) [] (Out.mk Xt.normal (frOf 72 [(4, .bool true)]) [] [])]) := by kernel_rfl
theorem sr_n (R : Res) (k_p : Res.le (.mk (.bool true) [] []) R) : CallSpec (Try.prog) (3) ([.int .u8 sn, .string s]) ([]) R := by
  exact (CallSpec.id (go_ok (exec_ok tnamed tcalm tmixed _ _ _ _) (sr_n_p sn e s kA kB ) (aC (kA) (aC (kA) (aC (kB) (aC (congrArg not dO) (aC (congrArg not dO) (aC (congrArg not dO) (aC (congrArg not dO) (aC (congrArg not dO) (aC (congrArg not dO) (aC (congrArg not dO) (aC (same_n) (aC (congrArg not dO) (aC (congrArg not dO) (aC (same_n) (aC (rg6_nil) aN))))))))))))))))).le (k_p )
end
section
variable (sn e : Int) (s : ByteArray) (n : Nat) (cs : List Value) (kA : CallSpec Try.prog 9 [.int .u8 sn, .string s] [] (.mk (.tuple #[slB 0 n n, .bool true, .int .i64 e]) [.own 3 cs] [])) (kB : CallSpec Try.prog 10 [.int .u8 sn, .string s] [] (.mk (.tuple #[slB 0 n n, .bool true, .int .i64 e]) [.own 3 cs] [])) (kS : CallSpec Try.prog 11 [slB 0 n n, slB 1 n n] [.own 3 cs, .own 3 cs] (.mk (.bool true) [.own 3 cs, .own 3 cs] [])) (kR : CodeSpec Try.prog 0 rg6 (frAp (slB 0 n n) (slB 1 n n)) [.own 3 cs, .own 3 cs] endA)
include sn e s n cs kA kB kS kR
theorem sr_s_p : go (exec (Try.prog) (8) (3) ([.int .u8 sn, .string s]) ([])) [(5, .call (.mk (.tuple #[(zSB 0 n n), .bool true, .int .i64 e]) [.own 3 cs] [])), (12, .call (.mk (.tuple #[(zSB 0 n n), .bool true, .int .i64 e]) [.own 3 cs] [])), (12, .call (.mk (.tuple #[(zSB 0 n n), .bool true, .int .i64 e]) [.own 3 cs] [])), (32, .dec false), (1, .dec false), (1, .dec false), (1, .dec false), (2, .dec false), (1, .dec false), (1, .dec false), (0, .call (.mk (.bool true) [.own 3 cs, .own 3 cs] [])), (2, .dec false), (1, .dec false), (7, .call (.mk (.bool true) [.own 3 cs, .own 3 cs] [])), (8, Itm.loop [5, 8] (Out.mk Xt.normal (frOf 72 [(4, .bool true)]) [] []))] = some (.mk (.bool true) [] [], true, [type_of% kA, type_of% kA, type_of% kB, (!decide (e = e)) = false, (!decide (e = e)) = false, (!decide (e = e)) = false, (!decide (e = e)) = false, (!decide (e = e)) = false, (!decide (e = e)) = false, (!decide (e = e)) = false, type_of% kS, (!decide (e = e)) = false, (!decide (e = e)) = false, type_of% kS, type_of% kR]) := by kernel_rfl
theorem sr_s (R : Res) (k_p : Res.le (.mk (.bool true) [] []) R) : CallSpec (Try.prog) (3) ([.int .u8 sn, .string s]) ([]) R := by
  exact (CallSpec.id (go_ok (exec_ok tnamed tcalm tmixed _ _ _ _) (sr_s_p sn e s n cs kA kB kS kR ) (aC (kA) (aC (kA) (aC (kB) (aC (congrArg not dO) (aC (congrArg not dO) (aC (congrArg not dO) (aC (congrArg not dO) (aC (congrArg not dO) (aC (congrArg not dO) (aC (congrArg not dO) (aC (kS) (aC (congrArg not dO) (aC (congrArg not dO) (aC (kS) (aC (kR) aN))))))))))))))))).le (k_p )
end
end Go.Proofs.Ytbolppjlaipfjaa.Ex
end
section
set_option linter.unusedSectionVars false
set_option linter.unusedSimpArgs false
set_option linter.unusedVariables false
namespace Go.Proofs.Ytbolppjlaipfjaa.Ex
open Go
set_option linter.unusedVariables false
noncomputable def lpT : Code := loopAt Try.prog 6 0
noncomputable def lpTC : Code := .loop lpT
noncomputable def lpD : Code := loopAt Try.prog 19 0
noncomputable def lpDC : Code := .loop lpD
def frT (sn : Int) (s : ByteArray) (l : Value) (is : Bool) (b k i : Int) : Fr := frOf 70 [(0, .int .u8 sn), (1, .string s), (5, l), (6, .bool is), (7, .int .i64 b), (8, .int .i64 k), (9, .int .i64 i)]
def frFd (s t : ByteArray) (i : Int) : Fr := frOf 24 [(0, .string s), (1, .string t), (5, .int .i64 i)]
end Go.Proofs.Ytbolppjlaipfjaa.Ex
end
section
set_option linter.unusedSectionVars false
set_option linter.unusedSimpArgs false
set_option linter.unusedVariables false
namespace Go.Proofs.Ytbolppjlaipfjaa.Ex
open Go
set_option linter.unusedVariables false
def cnt (d : ByteArray) : Nat → Nat
  | 0 => 0
  | p + 1 => cnt d p + if bt d p = 165 then 1 else 0
theorem cnt_mono (d : ByteArray) (p : Nat) : ∀ n, cnt d p ≤ cnt d (p + n)
  | 0 => Nat.le_refl _
  | n + 1 => Nat.le_trans (cnt_mono d p n) (by rw [← Nat.add_assoc, cnt]; omega)
def one (l : List Int) : Nat := if l = [] then 0 else 1
theorem rfS_law (sn : Int) (hw : wds sn ≠ []) (d : ByteArray) : ∀ (g p : Nat) (l : List Int) (b : Nat), b + one l ≤ cnt d p →
    (rfS sn d g p l b).2 + one (rfS sn d g p l b).1 ≤ cnt d d.size + (cnt d p - cnt d d.size) ∧ ((rfS sn d g p l b).1 = l ∨ ∃ q, bt d q = 165 ∧ frG sn (cutB d (q + 1)) ∧ (rfS sn d g p l b).1 = rdW (wds sn) (cutB d (q + 1)) 1)
  | 0, p, l, b, h => ⟨by rw [rfS]; show b + one l ≤ _; omega, .inl rfl⟩
  | g + 1, p, l, b, h => by
    rw [rfS]
    split
    · exact ⟨by show b + one l ≤ _; omega, .inl rfl⟩
    · rename_i h0
      have hc1 : cnt d (p + 1) ≤ cnt d d.size := by
        have := cnt_mono d (p + 1) (d.size - (p + 1))
        rwa [show p + 1 + (d.size - (p + 1)) = d.size by omega] at this
      have hc0 := cnt_mono d p 1
      split
      · rename_i h5
        obtain ⟨k1, k2⟩ := rfS_law sn hw d g (p + 1) l b (by omega)
        exact ⟨by omega, k2⟩
      · rename_i h5
        have h5 : bt d p = 165 := Classical.not_not.1 h5
        have e : cnt d (p + 1) = cnt d p + 1 := by rw [cnt, if_pos h5]
        split
        · rename_i hg
          have hne : one (rdW (wds sn) (cutB d (p + 1)) 1) = 1 := if_neg (rdW_ne hw _ _)
          have hm := cnt_mono d (p + 1) (frK sn + 2)
          rw [show p + 1 + (frK sn + 2) = p + frK sn + 3 by omega] at hm
          have hG := hg.1
          rw [cutB_size] at hG
          have hc2 : cnt d (p + frK sn + 3) ≤ cnt d d.size := by
            have := cnt_mono d (p + frK sn + 3) (d.size - (p + frK sn + 3))
            rwa [show p + frK sn + 3 + (d.size - (p + frK sn + 3)) = d.size by omega] at this
          obtain ⟨k1, k2⟩ := rfS_law sn hw d g (p + frK sn + 3) (rdW (wds sn) (cutB d (p + 1)) 1) b (by rw [hne]; omega)
          refine ⟨by omega, .inr ?_⟩
          rcases k2 with k2 | k2
          · exact ⟨p, h5, hg, k2⟩
          · exact k2
        · obtain ⟨k1, k2⟩ := rfS_law sn hw d g (p + 1) l (b + 1) (by omega)
          exact ⟨by omega, k2⟩
theorem read_law (sn : Int) (d : ByteArray) : (F.read sn d).2 + one (F.read sn d).1 ≤ cnt d d.size ∧ ((F.read sn d).1 = [] ∨ ∃ q, bt d q = 165 ∧ frG sn (cutB d (q + 1)) ∧ wds sn ≠ [] ∧ (F.read sn d).1 = rdW (wds sn) (cutB d (q + 1)) 1) := by
  unfold F.read
  by_cases hw : wds sn = []
  · rw [if_pos hw]; exact ⟨Nat.zero_le _, .inl rfl⟩
  · rw [if_neg hw]
    have e := rd_same sn d (d.size + 1) 0 (d.size + 1) [] 0 (by omega) (by omega) (by omega)
    rw [cutB_zero] at e
    rw [e]
    obtain ⟨k1, k2⟩ := rfS_law sn hw d (d.size + 1) 0 [] 0 (by rw [cnt]; exact Nat.le_refl _)
    rw [cnt] at k1
    refine ⟨by omega, ?_⟩
    rcases k2 with k2 | ⟨q, a, b, c⟩
    · exact .inl k2
    · exact .inr ⟨q, a, b, hw, c⟩
end Go.Proofs.Ytbolppjlaipfjaa.Ex
end
section
set_option linter.unusedSectionVars false
set_option linter.unusedSimpArgs false
set_option linter.unusedVariables false
namespace Go.Proofs.Ytbolppjlaipfjaa.Ex
open Go
set_option linter.unusedVariables false
theorem rdW_lenS : ∀ (ws : List Int) (s : ByteArray) (k : Nat), (rdW ws s k).length = ws.length
  | [], s, k => rfl
  | w :: ws, s, k => by rw [rdW, List.length_cons, List.length_cons, rdW_lenS ws]
theorem reads_law (sn : Int) (s : ByteArray) (hs : s.size ≤ 140737488351232) : CallSpec Try.prog 3 [.int .u8 sn, .string s] [] ⟨.bool true, [], []⟩ := by
  have kA := read_done (sn := sn) hs
  have kB := rread_done (sn := sn) hs
  obtain ⟨k1, k2⟩ := read_law sn s
  unfold rdR at kA kB
  by_cases hl : (F.read sn s).1 = []
  · rw [if_pos hl] at kA kB
    exact sr_n sn _ s kA kB _ res_refl
  · rw [if_neg hl] at kA kB
    have h1 : 1 ≤ (F.read sn s).1.length := by
      cases h : (F.read sn s).1 with
      | nil => exact absurd h hl
      | cons a l => simp
    have h5 : (F.read sn s).1.length ≤ 5 := by
      rcases k2 with k2 | ⟨q, _, _, _, e⟩
      · exact absurd k2 hl
      · rw [e, rdW_lenS]
        exact wds_len sn
    have kS := same_o (l := (F.read sn s).1) (ex := []) (ey := []) (c := (F.read sn s).1.length) (d := (F.read sn s).1.length) (by omega)
    rw [List.append_nil] at kS
    exact sr_s sn _ s _ _ kA kB kS (rg6_two rfl h1 (by omega)) _ res_refl
end Go.Proofs.Ytbolppjlaipfjaa.Ex
end
