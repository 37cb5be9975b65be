/- The contract of windhoverkeep.Apart, of two lists in blocks of their own. -/
import Derived.Test.YteleiocdjcdgcaaXx0
import Derived.Test.YteleiocdjcdgcaaXHKit
namespace Go.Proofs.Yteleiocdjcdgcaa.X
open Go.RowKit Go.Proofs.YteleiocdjcdgcaaW.PrintWords Go.Proofs.YteleiocdjcdgcaaW.PrintLast Go.Proofs.YteleiocdjcdgcaaW.PrintMore Go.Proofs.Yteleiocdjcdgcaa.HKit
set_option linter.unusedVariables false
set_option linter.unusedSimpArgs false
theorem w64' {n : Int} (h0 : -9223372036854775808 ≤ n) (h1 : n ≤ 9223372036854775807) : wrap64 n = n := by unfold wrap64; omega
theorem wrap_i64 (x : Int) : IntKind.i64.wrap x = wrap64 x := by
  have e1 : (2 : Int) ^ IntKind.i64.bits = 18446744073709551616 := by decide
  have e2 : (2 : Int) ^ (IntKind.i64.bits - 1) = 9223372036854775808 := by decide
  unfold IntKind.wrap wrap64
  simp only [e1, e2, show IntKind.i64.signed = true from rfl, Bool.true_and, decide_eq_true_eq]
  split <;> omega
/-- A list of whole numbers in a block of its own: what stands in its places. -/
def RowI (W : World) (base : Nat) (A : Option Addr) (n c : Nat) (f : Nat → Int) : Prop :=
  (A = none ∧ n = 0 ∧ c = 0) ∨ ∃ g cur, A = some ⟨g, 0, none⟩ ∧ base ≤ g ∧ W.heap[g]? = some (.cells cur 3 (0, 0)) ∧ n ≤ c ∧ c ≤ maxLen ∧ cur.size = c ∧ ∀ t, t < n → cur[t]? = some (.int .i64 (f t))
def own (A : Option Addr) : Option Nat := A.map (·.block)
theorem RowI.keep {W W' : World} {base n c : Nat} {A : Option Addr} {f : Nat → Int} (h : RowI W base A n c f) (hk : ∀ g, own A = some g → W'.heap[g]? = W.heap[g]?) : RowI W' base A n c f := by
  rcases h with h | ⟨g, cur, rfl, h1, h2, h3⟩
  · exact .inl h
  · exact .inr ⟨g, cur, rfl, h1, (hk g rfl).trans h2, h3⟩
theorem RowI.lt {W : World} {base n c : Nat} {A : Option Addr} {f : Nat → Int} (h : RowI W base A n c f) : ∀ g, own A = some g → base ≤ g ∧ g < W.heap.size := by
  intro g hg
  rcases h with ⟨rfl, _⟩ | ⟨g', cur, rfl, h1, h2, _⟩
  · cases hg
  · obtain rfl : g' = g := by simpa [own] using hg
    exact ⟨h1, (Array.getElem?_eq_some_iff.1 h2).1⟩
theorem RowI.at_ {W : World} {base n c t : Nat} {A : Option Addr} {f : Nat → Int} (h : RowI W base A n c f) (ht : t < n) : ∃ g, A = some ⟨g, 0, none⟩ ∧ W.cell? ⟨g, t, none⟩ = some (.int .i64 (f t)) ∧ W.frozen? ⟨g, t, none⟩ = false := by
  rcases h with ⟨_, rfl, _⟩ | ⟨g, cur, rfl, h1, h2, h3, h4, h5, h6⟩
  · omega
  · exact ⟨g, rfl, by simp [World.cell?, h2, h6 t ht], by simp [World.frozen?, h2]⟩
theorem RowI.set {W : World} {base n c g k : Nat} {f : Nat → Int} (h : RowI W base (some ⟨g, 0, none⟩) n c f) (hk : k < n) (x : Int) : RowI (W.setCell ⟨g, k, none⟩ (.int .i64 x)) base (some ⟨g, 0, none⟩) n c (fun t => if t = k then x else f t) := by
  rcases h with ⟨h, _⟩ | ⟨g', cur, e, h1, h2, h3, h4, h5, h6⟩
  · cases h
  · obtain rfl : g = g' := by simpa using e
    refine .inr ⟨g, cur.setIfInBounds k (.int .i64 x), rfl, h1, blk_set h2 k _, h3, h4, by simpa using h5, fun t ht => ?_⟩
    dsimp only
    by_cases e : t = k
    · subst e
      rw [if_pos rfl, Array.getElem?_setIfInBounds_self_of_lt (by omega)]
    · rw [if_neg e, Array.getElem?_setIfInBounds_ne (Ne.symm e)]
      exact h6 t ht
/-- What an append leaves of the blocks that were there: all of them but the list's own, and of that one the list's places. -/
def KeepsPre (W W' : World) (A : Option Addr) (n : Nat) : Prop :=
  ∀ b, b < W.heap.size → (own A ≠ some b → W'.heap[b]? = W.heap[b]?) ∧
    (own A = some b → ∀ cur, W.heap[b]? = some (.cells cur 3 (0, 0)) → ∃ cur', W'.heap[b]? = some (.cells cur' 3 (0, 0)) ∧ cur'.size = cur.size ∧ ∀ t, t < n → cur'[t]? = cur[t]?)
theorem RowI.pre {W W' : World} {base n c m : Nat} {A B : Option Addr} {f : Nat → Int} (h : RowI W base A n c f) (hk : KeepsPre W W' B m) (hm : own A = own B → n ≤ m) : RowI W' base A n c f := by
  rcases h with h | ⟨g, cur, rfl, h1, h2, h3, h4, h5, h6⟩
  · exact .inl h
  · have hl := (Array.getElem?_eq_some_iff.1 h2).1
    by_cases e : own B = some g
    · obtain ⟨cur', k1, k2, k3⟩ := (hk g hl).2 e cur h2
      exact .inr ⟨g, cur', rfl, h1, k1, h3, h4, by omega, fun t ht => by rw [k3 t (by have := hm (by rw [e]; rfl); omega)]; exact h6 t ht⟩
    · exact .inr ⟨g, cur, rfl, h1, ((hk g hl).1 e).trans h2, h3, h4, h5, h6⟩
theorem RowI.owns {W : World} {base n c : Nat} {A : Option Addr} {f : Nat → Int} (h : RowI W base A n c f) : W.ownsRow base 3 1 (.slice A n c) n ((List.range n).map fun t => .int .i64 (f t)) := by
  refine ⟨by simp, ?_⟩
  rcases h with ⟨rfl, rfl, rfl⟩ | ⟨g, cur, rfl, h1, h2, h3, h4, h5, h6⟩
  · exact .inl ⟨rfl, rfl⟩
  · refine .inr ⟨g, c, cur, rfl, h1, h2, h3, h4, by omega, ?_⟩
    apply List.ext_getElem?
    intro t
    rw [Nat.mul_one]
    by_cases ht : t < n
    · rw [List.getElem?_take_of_lt ht, Array.getElem?_toList, h6 t ht]
      simp [ht]
    · rw [List.getElem?_eq_none (by simp; omega), List.getElem?_eq_none (by simp; omega)]
theorem RowI.of_owns {W : World} {base n : Nat} {v : Value} {f : Nat → Int} {xs : List Value} (h : W.ownsRow base 3 1 v (n + 1) xs) (hx : ∀ t, t < n + 1 → xs[t]? = some (.int .i64 (f t))) : ∃ A c, v = .slice A (n + 1) c ∧ RowI W base A (n + 1) c f := by
  rcases h.2 with ⟨_, h⟩ | ⟨g, cap, cur, rfl, h1, h2, h3, h4, h5, h6⟩
  · omega
  · refine ⟨_, _, rfl, .inr ⟨g, cur, rfl, h1, h2, h3, h4, by omega, fun t ht => ?_⟩⟩
    have := hx t ht
    rw [← h6, Nat.mul_one, List.getElem?_take_of_lt ht, Array.getElem?_toList] at this
    exact this
theorem append_row (ty : TypeId) {W : World} {base n c : Nat} {A : Option Addr} {f : Nat → Int} (h : RowI W base A n c f) (hb : base ≤ W.heap.size) (hn : n ≤ 2000000) (x : Int) :
    ∃ A' c' W', (Builtin.append_ #[23, 23] ty #[.slice A n c, .slice (some ⟨W.heap.size, 0, none⟩) 1 1]).run Try.prog (W.alloc (.cells #[.int .i64 x] 3)) = .ok (.slice A' (n + 1) c') W' ∧
      RowI W' base A' (n + 1) c' (fun t => if t = n then x else f t) ∧ KeepsPre (W.alloc (.cells #[.int .i64 x] 3)) W' A n ∧ (W.alloc (.cells #[.int .i64 x] 3)).grownBy W' (own A) ∧ (own A' = own A ∨ ∃ b, own A' = some b ∧ W.heap.size + 1 ≤ b) := by
  obtain ⟨i0, hi, hz0, hz1, hz2⟩ := info_parts info3
  have ho := (h.keep (W' := W.alloc (.cells #[.int .i64 x] 3)) (fun g hg => Below.heap_alloc _ _ _ (h.lt g hg).2)).owns
  have hx : ∀ j u, ([.int .i64 x] : List Value)[j]? = some u → (W.alloc (.cells #[.int .i64 x] 3)).cell? ((⟨W.heap.size, 0, none⟩ : Addr).add j) = some u := cell_one_new _ _ _
  have h1 : ∀ u ∈ ([.int .i64 x] : List Value), u.oneCell' = true := fun u hu => by simp at hu; subst hu; rfl
  obtain ⟨v', W', hr, hown, hg, _⟩ := run_append_own (P := Try.prog) (W.alloc (.cells #[.int .i64 x] 3)) base 23 ty 3 i0 (.int .i64 0) 1 8 Try.underlying23 hi hz0 hz1 hz2 rfl (by decide) _ n _ ho ⟨W.heap.size, 0, none⟩ 1 1 [.int .i64 x] rfl hx h1 (by simp only [maxLen]; omega) (by omega) (by simp; omega)
  obtain ⟨A', c', rfl, hrow⟩ := RowI.of_owns (f := fun t => if t = n then x else f t) hown (fun t ht => by
    by_cases e : t = n
    · subst e
      rw [List.getElem?_append_right (by simp)]
      simp
    · rw [List.getElem?_append_left (by simp; omega)]
      simp [show t < n by omega, e])
  have hgA : (Value.slice A n c).ownBlock = own A := by cases A <;> rfl
  rw [hgA] at hg
  have hfar : ∀ b, b < (W.alloc (.cells #[.int .i64 x] 3)).heap.size → own A ≠ some b → W'.heap[b]? = (W.alloc (.cells #[.int .i64 x] 3)).heap[b]? := fun b hbl hne => hg.block b hbl (fun e => hne e.symm)
  rcases h with ⟨rfl, rfl, rfl⟩ | ⟨g, cur0, rfl, g1, g2, g3, g4, g5, g6⟩
  · have hr2 := run_append_nil (P := Try.prog) (W.alloc (.cells #[.int .i64 x] 3)) 23 ty 3 i0 (.int .i64 0) Try.underlying23 hi hz0 ⟨W.heap.size, 0, none⟩ 1 1 [.int .i64 x] (by rw [hz1]; rfl) hx (by omega) (by omega) (by rw [hz2]; omega)
    have hr' := hr
    rw [hr2] at hr'
    injection hr' with hv hW
    injection hv with hA _ _
    exact ⟨A', c', W', hr, hrow, fun b hbl => ⟨hfar b hbl, fun e => by cases e⟩, hg, .inr ⟨_, by rw [← hA]; rfl, by simp⟩⟩
  · have g2' := (Below.heap_alloc W (.cells #[.int .i64 x] 3) g (Array.getElem?_eq_some_iff.1 g2).1).trans g2
    by_cases room : n + 1 ≤ c
    · have hr2 := run_append_room (P := Try.prog) (W.alloc (.cells #[.int .i64 x] 3)) 23 ty 3 i0 Try.underlying23 hi g n c cur0 g2' ⟨W.heap.size, 0, none⟩ 1 1 [.int .i64 x] (by rw [hz1]; rfl) hx h1 room (by rw [hz1]; simp; omega)
      have hr' := hr
      rw [hr2] at hr'
      injection hr' with hv hW
      injection hv with hA _ _
      refine ⟨A', c', W', hr, hrow, fun b hbl => ⟨hfar b hbl, fun he cur hcur => ?_⟩, hg, .inl (by rw [← hA])⟩
      obtain rfl : g = b := by simpa [own] using he
      rw [g2'] at hcur
      obtain rfl : cur0 = cur := by simpa using hcur
      subst hW
      refine ⟨_, setRow_heap _ g cur0 _ 3 _ g2', ?_, fun t ht => ?_⟩
      · rw [hz1]; simp; omega
      · rw [hz1]
        simp only [Nat.mul_one, List.getElem?_toArray]
        rw [List.getElem?_append_left (by simp; omega), List.getElem?_append_left (by simp; omega), List.getElem?_take_of_lt ht, Array.getElem?_toList]
    · have hr2 := run_append_grow (P := Try.prog) (W.alloc (.cells #[.int .i64 x] 3)) 23 ty 3 i0 (.int .i64 0) Try.underlying23 hi hz0 ⟨g, 0, none⟩ n c _ (by rw [hz1]; exact ho.1) (ho.cells (g := g) rfl) ⟨W.heap.size, 0, none⟩ 1 1 [.int .i64 x] (by rw [hz1]; rfl) hx (by omega) (by omega) (growslice_fits (by omega) (by rw [hz2]; omega))
      have hr' := hr
      rw [hr2] at hr'
      injection hr' with hv hW
      injection hv with hA _ _
      refine ⟨A', c', W', hr, hrow, fun b hbl => ⟨hfar b hbl, fun he cur hcur => ?_⟩, hg, .inr ⟨_, by rw [← hA]; rfl, by simp⟩⟩
      obtain rfl : g = b := by simpa [own] using he
      rw [g2'] at hcur
      obtain rfl : cur0 = cur := by simpa using hcur
      subst hW
      exact ⟨cur0, (heap_alloc_old _ _ (show g < _ from hbl)).trans g2', rfl, fun _ _ => rfl⟩
def markI (j t : Nat) : Int := (j : Int) * 1000003 + (t : Int)
def appI (j t : Nat) : Int := -(j : Int) * 1000003 - (t : Int) - 1
section
variable {base gL oL cL : Nat} {A : Nat → Option Addr} {n c : Nat → Nat} {w W W' : World} {i k : Nat}
/-- What two lists in blocks of their own, a list of them, and the place for the longer ones are known by. -/
structure Two (base gL oL : Nat) (A : Nat → Option Addr) (n c : Nat → Nat) (w : World) : Prop where
  le : base ≤ gL
  lt : gL < w.heap.size
  ls : ∀ j, j < 2 → w.cell? ⟨gL, oL + j, none⟩ = some (.slice (A j) (n j) (c j))
  row : ∀ j, j < 2 → ∃ f, RowI w base (A j) (n j) (c j) f
  far : ∀ j, j < 2 → own (A j) ≠ some gL
  two : ∀ g, own (A 0) = some g → own (A 1) ≠ some g
  few : ∀ j, j < 2 → n j ≤ 1000000
theorem Two.lt_row (h : Two base gL oL A n c w) : ∀ j, j < 2 → ∀ g, own (A j) = some g → g < w.heap.size := by
  intro j hj g hg
  obtain ⟨f, hf⟩ := h.row j hj
  exact (hf.lt g hg).2
theorem Two.ne (h : Two base gL oL A n c w) : ∀ j j', j < 2 → j' < 2 → j ≠ j' → ∀ g, own (A j) = some g → own (A j') ≠ some g := by
  intro j j' hj hj' hne g hg e
  have : (j = 0 ∧ j' = 1) ∨ (j = 1 ∧ j' = 0) := by omega
  rcases this with ⟨rfl, rfl⟩ | ⟨rfl, rfl⟩
  · exact h.two g hg e
  · exact h.two g e hg
/-- The first loop: the lists before i are marked, k places of list i too. -/
structure S1 (base gL : Nat) (A : Nat → Option Addr) (n c : Nat → Nat) (w : World) (W : World) (i k : Nat) : Prop where
  below : Below base w W
  size : w.heap.size < W.heap.size
  lsB : W.heap[gL]? = w.heap[gL]?
  rows : ∃ f : Nat → Nat → Int, (∀ j, j < 2 → RowI W base (A j) (n j) (c j) (f j)) ∧ ∀ j t, j < 2 → (j < i ∨ j = i ∧ t < k) → t < n j → f j t = markI j t
  long : ∃ cur, W.heap[w.heap.size]? = some (.cells cur 23 (0, 0)) ∧ cur.size = 2 ∧ ∀ j, j < i → j < 2 → cur[j]? = some (.slice (A j) (n j) (c j))
theorem S1.cellL (h : S1 base gL A n c w W i k) (ht : Two base gL oL A n c w) {j : Nat} (hj : j < 2) : W.cell? ⟨gL, oL + j, none⟩ = some (.slice (A j) (n j) (c j)) := (World.cell?_of_block h.lsB).trans (ht.ls j hj)
theorem S1.first (ht : Two base gL oL A n c w) : S1 base gL A n c w (w.alloc (.cells #[.slice none 0 0, .slice none 0 0] 23)) 0 0 := by
  have hk : ∀ g, g < w.heap.size → (w.alloc (.cells #[.slice none 0 0, .slice none 0 0] 23)).heap[g]? = w.heap[g]? := fun g hg => Below.heap_alloc _ _ _ hg
  obtain ⟨f0, h0⟩ := ht.row 0 (by omega)
  obtain ⟨f1, h1⟩ := ht.row 1 (by omega)
  refine ⟨(Below.refl base w).alloc (by have := ht.le; have := ht.lt; omega) _, by simp, hk _ ht.lt, ⟨fun j => if j = 0 then f0 else f1, fun j hj => ?_, fun j t _ h => by omega⟩, ⟨_, heap_at _ _ _ rfl, rfl, fun j hj => by omega⟩⟩
  have : j = 0 ∨ j = 1 := by omega
  rcases this with rfl | rfl
  · exact h0.keep fun g hg => hk g (h0.lt g hg).2
  · exact h1.keep fun g hg => hk g (h1.lt g hg).2
theorem S1.put (h : S1 base gL A n c w W i k) (ht : Two base gL oL A n c w) (hi : i < 2) (hk : k < n i) {g : Nat} (hg : A i = some ⟨g, 0, none⟩) : S1 base gL A n c w (W.setCell ⟨g, k, none⟩ (.int .i64 (markI i k))) i (k + 1) := by
  have hog : own (A i) = some g := by rw [hg]; rfl
  have hlt := ht.lt_row i hi g hog
  have hgL : g ≠ gL := fun e => ht.far i hi (by rw [hog, e])
  obtain ⟨f, hf, hm⟩ := h.rows
  obtain ⟨cur, hc1, hc2, hc3⟩ := h.long
  have hle := ((hf i hi).lt g hog).1
  refine ⟨h.below.setCell (p := ⟨g, k, none⟩) hle _, by simpa using h.size, (Below.heap_setCell _ _ _ _ (Ne.symm hgL)).trans h.lsB, ⟨fun j => if j = i then (fun t => if t = k then markI i k else f i t) else f j, fun j hj => ?_, fun j t hj hjt ht' => ?_⟩, ⟨cur, blk_far hc1 (by show w.heap.size ≠ g; omega) _, hc2, hc3⟩⟩
  · by_cases e : j = i
    · subst e
      simp only [if_true]
      have := hf j hj
      rw [hg] at this ⊢
      exact this.set hk _
    · simp only [if_neg e]
      refine (hf j hj).keep fun g' hg' => Below.heap_setCell _ _ _ _ ?_
      intro e'
      exact ht.ne i j hi hj (Ne.symm e) g hog (by rw [hg', e'])
  · by_cases e : j = i
    · subst e
      simp only [if_true]
      by_cases e2 : t = k
      · rw [if_pos e2, e2]
      · rw [if_neg e2]
        exact hm j t hj (by omega) ht'
    · simp only [if_neg e]
      exact hm j t hj (by omega) ht'
theorem S1.next (h : S1 base gL A n c w W i (n i)) (ht : Two base gL oL A n c w) (hi : i < 2) : S1 base gL A n c w (W.setCell ⟨w.heap.size, i, none⟩ (.slice (A i) (n i) (c i))) (i + 1) 0 := by
  obtain ⟨f, hf, hm⟩ := h.rows
  obtain ⟨cur, hc1, hc2, hc3⟩ := h.long
  have hl := ht.lt
  have hbl := ht.le
  refine ⟨h.below.setCell (p := ⟨w.heap.size, i, none⟩) (by show base ≤ w.heap.size; omega) _, by simpa using h.size, (Below.heap_setCell _ _ _ _ (by show gL ≠ w.heap.size; omega)).trans h.lsB, ⟨f, fun j hj => (hf j hj).keep fun g hg => Below.heap_setCell _ _ _ _ ?_, fun j t hj hjt ht' => hm j t hj ?_ ht'⟩, ⟨_, blk_set hc1 i _, by simpa using hc2, fun j hj hj2 => ?_⟩⟩
  · have := ht.lt_row j hj g hg
    show g ≠ w.heap.size
    omega
  · rcases hjt with h' | ⟨_, h'⟩
    · by_cases e : j = i
      · subst e; exact .inr ⟨rfl, ht'⟩
      · exact .inl (by omega)
    · omega
  · by_cases e : j = i
    · subst e
      rw [Array.getElem?_setIfInBounds_self_of_lt (by omega)]
    · rw [Array.getElem?_setIfInBounds_ne (Ne.symm e)]
      exact hc3 j (by omega) hj2
theorem S1.cellM (h : S1 base gL A n c w W i k) {j : Nat} (hj : j < 2) : (∃ u, W.cell? ⟨w.heap.size, j, none⟩ = some u) ∧ W.frozen? ⟨w.heap.size, j, none⟩ = false := by
  obtain ⟨cur, hc1, hc2, hc3⟩ := h.long
  exact ⟨⟨cur[j], by rw [blk_cell hc1 j]; simp [show j < cur.size by omega]⟩, blk_frozen hc1 j⟩
end
section
variable {P : Program} {ops : Array Oper} {rest : List Oper} {o : Oper} {a : Act} {Q : Exit → Act → World → Prop}
theorem append_walk {W : World} {base n c : Nat} {A : Option Addr} {f : Nat → Int} (hgd : o.guard = none) (s x : Operand) (ho : o.op = .call { callee := .builtin .append, args := #[s, x], argTypes := #[23, 23] })
    (h : RowI W base A n c f) (hb : base ≤ W.heap.size) (hn : n ≤ 2000000) (v : Int) (hs : a.eval s = .slice A n c) (hx : a.eval x = .slice (some ⟨W.heap.size, 0, none⟩) 1 1)
    (k : ∀ A' c' W', RowI W' base A' (n + 1) c' (fun t => if t = n then v else f t) → KeepsPre (W.alloc (.cells #[.int .i64 v] 3)) W' A n → (W.alloc (.cells #[.int .i64 v] 3)).grownBy W' (own A) → (own A' = own A ∨ ∃ b, own A' = some b ∧ W.heap.size + 1 ≤ b) →
      wpList Try.prog ops Q rest (a.put o.dst (.slice A' (n + 1) c')) W') : wpList Try.prog ops Q (o :: rest) a (W.alloc (.cells #[.int .i64 v] 3)) := by
  obtain ⟨A', c', W', hr, h1, h2, h3, h4⟩ := append_row o.type h hb hn v
  refine wpList_plain hgd fun _ hK => ?_
  unfold Oper.wp execOp
  simp only [ho, resolve, invoke, builtin, Sem.run_bind, Sem.run_pure, Result.andThen_ok, List.map_toArray, List.map_cons, List.map_nil, hs, hx, hr]
  exact hK _ _ (k A' c' W' h1 h2 h3 h4)
end
def longI (n : Nat → Nat) (j t : Nat) : Int := if t < n j then markI j t else appI j (t - n j)
theorem RowI.congr {W : World} {base n c : Nat} {A : Option Addr} {f f' : Nat → Int} (h : RowI W base A n c f) (he : ∀ t, t < n → f t = f' t) : RowI W base A n c f' := by
  rcases h with h | ⟨g, cur, rfl, h1, h2, h3, h4, h5, h6⟩
  · exact .inl h
  · exact .inr ⟨g, cur, rfl, h1, h2, h3, h4, h5, fun t ht => by rw [← he t ht]; exact h6 t ht⟩
/-- How many places list j has got behind it. -/
def more (i k j : Nat) : Nat := if j < i then 16 else if j = i then k else 0
section
variable {base gL oL cL : Nat} {A : Nat → Option Addr} {n c : Nat → Nat} {w W W' : World} {i k : Nat} {B : Nat → Option Addr} {d : Nat → Nat}
/-- The second loop: list i has got k places more. -/
structure S2 (base gL : Nat) (A : Nat → Option Addr) (n c : Nat → Nat) (w : World) (B : Nat → Option Addr) (d : Nat → Nat) (W : World) (i k : Nat) : Prop where
  below : Below base w W
  size : w.heap.size < W.heap.size
  lsB : W.heap[gL]? = w.heap[gL]?
  rows : ∀ j, j < 2 → RowI W base (A j) (n j) (c j) (markI j)
  long : ∃ cur, W.heap[w.heap.size]? = some (.cells cur 23 (0, 0)) ∧ cur.size = 2 ∧ ∀ j, j < 2 → cur[j]? = some (.slice (B j) (n j + more i k j) (d j))
  grow : ∀ j, j < 2 → RowI W base (B j) (n j + more i k j) (d j) (longI n j)
  ne : ∀ j j', j < 2 → j' < 2 → j ≠ j' → ∀ g, own (B j) = some g → own (B j') ≠ some g ∧ own (A j') ≠ some g
  far : ∀ j, j < 2 → own (B j) ≠ some gL ∧ own (B j) ≠ some w.heap.size
theorem S2.cellL (h : S2 base gL A n c w B d W i k) (ht : Two base gL oL A n c w) {j : Nat} (hj : j < 2) : W.cell? ⟨gL, oL + j, none⟩ = some (.slice (A j) (n j) (c j)) := (World.cell?_of_block h.lsB).trans (ht.ls j hj)
theorem S2.cellM (h : S2 base gL A n c w B d W i k) {j : Nat} (hj : j < 2) : W.cell? ⟨w.heap.size, j, none⟩ = some (.slice (B j) (n j + more i k j) (d j)) ∧ W.frozen? ⟨w.heap.size, j, none⟩ = false := by
  obtain ⟨cur, hc1, hc2, hc3⟩ := h.long
  exact ⟨by rw [blk_cell hc1 j]; exact hc3 j hj, blk_frozen hc1 j⟩
theorem S2.first (h : S1 base gL A n c w W 2 0) (ht : Two base gL oL A n c w) : S2 base gL A n c w A c W 0 0 := by
  obtain ⟨f, hf, hm⟩ := h.rows
  obtain ⟨cur, hc1, hc2, hc3⟩ := h.long
  have hz : ∀ j, n j + more 0 0 j = n j := fun j => by
    unfold more
    rw [if_neg (by omega)]
    split <;> omega
  refine ⟨h.below, h.size, h.lsB, fun j hj => (hf j hj).congr fun t ht' => hm j t hj (.inl hj) ht', ⟨cur, hc1, hc2, fun j hj => by rw [hz]; exact hc3 j hj hj⟩, fun j hj => ?_, fun j j' hj hj' hne g hg => ⟨ht.ne j j' hj hj' hne g hg, ht.ne j j' hj hj' hne g hg⟩, fun j hj => ⟨ht.far j hj, fun e => by have := ht.lt_row j hj _ e; omega⟩⟩
  rw [hz]
  exact (hf j hj).congr fun t ht' => by rw [hm j t hj (.inl hj) ht', longI, if_pos ht']
theorem more_self : more i k i = k := by simp [more]
theorem more_other {j : Nat} (h : j ≠ i) : more i k j = more i (k + 1) j := by simp [more, h]
theorem S2.next (h : S2 base gL A n c w B d W i 16) : S2 base gL A n c w B d W (i + 1) 0 := by
  have hm : ∀ j, more (i + 1) 0 j = more i 16 j := by
    intro j
    unfold more
    by_cases h1 : j < i
    · rw [if_pos (by omega), if_pos h1]
    · by_cases h2 : j = i
      · rw [if_pos (by omega), if_neg h1, if_pos h2]
      · rw [if_neg (by omega), if_neg h1, if_neg h2]
        split <;> rfl
  obtain ⟨cur, hc1, hc2, hc3⟩ := h.long
  exact ⟨h.below, h.size, h.lsB, h.rows, ⟨cur, hc1, hc2, fun j hj => by rw [hm]; exact hc3 j hj⟩, fun j hj => by rw [hm]; exact h.grow j hj, h.ne, h.far⟩
theorem S2.app (h : S2 base gL A n c w B d W i k) (ht : Two base gL oL A n c w) (hi : i < 2) {A' : Option Addr} {c' : Nat} (h1 : RowI W' base A' (n i + k + 1) c' (fun t => if t = n i + k then appI i k else longI n i t))
    (h2 : KeepsPre (W.alloc (.cells #[.int .i64 (appI i k)] 3)) W' (B i) (n i + k)) (h3 : (W.alloc (.cells #[.int .i64 (appI i k)] 3)).grownBy W' (own (B i))) (h4 : own A' = own (B i) ∨ ∃ b, own A' = some b ∧ W.heap.size + 1 ≤ b) :
    S2 base gL A n c w (fun j => if j = i then A' else B j) (fun j => if j = i then c' else d j) (W'.setCell ⟨w.heap.size, i, none⟩ (.slice A' (n i + k + 1) c')) i (k + 1) := by
  have hs := h.size
  have hs' := h3.size
  simp only [World.size_alloc] at hs'
  have hlt := ht.lt
  have hle := ht.le
  have hal : ∀ g, g < W.heap.size → (W.alloc (.cells #[.int .i64 (appI i k)] 3)).heap[g]? = W.heap[g]? := fun g hg => Below.heap_alloc _ _ _ hg
  have hza : (W.alloc (.cells #[.int .i64 (appI i k)] 3)).heap.size = W.heap.size + 1 := by simp
  have hoth : ∀ g, g < W.heap.size → own (B i) ≠ some g → W'.heap[g]? = W.heap[g]? := fun g hg hne => ((h2 g (by omega)).1 hne).trans (hal g hg)
  have hblt : ∀ j, j < 2 → ∀ g, own (B j) = some g → base ≤ g ∧ g < W.heap.size := fun j hj g hg => (h.grow j hj).lt g hg
  have hA' : ∀ g, own A' = some g → own (B i) = some g ∨ W.heap.size + 1 ≤ g := by
    intro g hg
    rcases h4 with h4 | ⟨b, hb, hb'⟩
    · exact .inl (h4 ▸ hg)
    · rw [hb] at hg; cases hg; exact .inr hb'
  have hset : ∀ g, g ≠ w.heap.size → (W'.setCell ⟨w.heap.size, i, none⟩ (.slice A' (n i + k + 1) c')).heap[g]? = W'.heap[g]? := fun g hg => Below.heap_setCell _ _ _ _ hg
  have hfi := h.far i hi
  obtain ⟨cur, hc1, hc2, hc3⟩ := h.long
  have hm1 := (hoth w.heap.size hs hfi.2).trans hc1
  have hbW : Below base W W' := by
    have := (Below.refl base W).alloc (show base ≤ W.heap.size by omega) (.cells #[.int .i64 (appI i k)] 3)
    exact this.grown h3 (by rw [hza]; omega) (fun g hg => (hblt i hi g hg).1)
  refine ⟨(h.below.trans hbW).setCell (p := ⟨w.heap.size, i, none⟩) (by show base ≤ w.heap.size; omega) _, by simp; omega, ((hset gL (by omega)).trans (hoth gL (by omega) hfi.1)).trans h.lsB, fun j hj => ?_, ⟨_, blk_set hm1 i _, by simpa using hc2, fun j hj => ?_⟩, fun j hj => ?_, fun j j' hj hj' hne g hg => ?_, fun j hj => ?_⟩
  · have hr := (h.rows j hj).keep (W' := W.alloc (.cells #[.int .i64 (appI i k)] 3)) fun g hg => hal g ((h.rows j hj).lt g hg).2
    refine (hr.pre h2 fun e => ?_).keep fun g hg => hset g ?_
    · by_cases ej : j = i
      · subst ej; omega
      · cases hB : own (B i) with
        | none =>
          rcases h.rows j hj with ⟨_, hn0, _⟩ | ⟨g, cu, hg, _⟩
          · omega
          · rw [hg] at e; rw [hB] at e; cases e
        | some g => exact absurd (e.trans hB) (h.ne i j hi hj (fun e => ej e.symm) g hB).2
    · have := ht.lt_row j hj g hg; omega
  · by_cases ej : j = i
    · subst ej
      rw [Array.getElem?_setIfInBounds_self_of_lt (by omega), if_pos rfl, if_pos rfl, more_self, Nat.add_assoc]
    · rw [Array.getElem?_setIfInBounds_ne (Ne.symm ej), if_neg ej, if_neg ej, ← more_other ej]
      exact hc3 j hj
  · by_cases ej : j = i
    · subst ej
      simp only [if_true]
      rw [more_self, ← Nat.add_assoc]
      refine (h1.congr fun t ht' => ?_).keep fun g hg => hset g ?_
      · by_cases e : t = n j + k
        · subst e
          rw [if_pos rfl, longI, if_neg (by omega), Nat.add_sub_cancel_left]
        · rw [if_neg e]
      · rcases hA' g hg with h' | h'
        · exact fun e => hfi.2 (e ▸ h')
        · omega
    · simp only [if_neg ej]
      rw [← more_other ej]
      refine ((h.grow j hj).keep fun g hg => hoth g (hblt j hj g hg).2 fun e => (h.ne i j hi hj (fun e => ej e.symm) g e).1 hg).keep fun g hg => hset g ?_
      exact fun e => (h.far j hj).2 (e ▸ hg)
  · by_cases ej : j = i
    · subst ej
      simp only [if_true] at hg
      rw [if_neg (Ne.symm hne)]
      rcases hA' g hg with h' | h'
      · exact h.ne j j' hj hj' hne g h'
      · exact ⟨fun e => by have := (hblt j' hj' g e).2; omega, fun e => by have := ht.lt_row j' hj' g e; omega⟩
    · simp only [if_neg ej] at hg
      by_cases ej' : j' = i
      · subst ej'
        simp only [if_true]
        have := h.ne j j' hj hj' hne g hg
        refine ⟨fun e => ?_, this.2⟩
        rcases hA' g e with h' | h'
        · exact this.1 h'
        · have := (hblt j hj g hg).2; omega
      · rw [if_neg ej']
        exact h.ne j j' hj hj' hne g hg
  · by_cases ej : j = i
    · subst ej
      simp only [if_true]
      refine ⟨fun e => ?_, fun e => ?_⟩
      · rcases hA' _ e with h' | h'
        · exact hfi.1 h'
        · omega
      · rcases hA' _ e with h' | h'
        · exact hfi.2 h'
        · omega
    · simp only [if_neg ej]
      exact h.far j hj
end
section
variable {base gL oL cL : Nat} {A : Nat → Option Addr} {n c : Nat → Nat} {w W W' : World} {i k : Nat} {B : Nat → Option Addr} {d : Nat → Nat}
theorem S2.mid (h : S2 base gL A n c w B d W i k) (hi : i < 2) {x : Int} (h2 : KeepsPre (W.alloc (.cells #[.int .i64 x] 3)) W' (B i) (n i + k)) :
    W'.cell? ⟨w.heap.size, i, none⟩ = some (.slice (B i) (n i + k) (d i)) ∧ W'.frozen? ⟨w.heap.size, i, none⟩ = false := by
  have hs := h.size
  have e : W'.heap[w.heap.size]? = W.heap[w.heap.size]? := ((h2 w.heap.size (by simp; omega)).1 (h.far i hi).2).trans (Below.heap_alloc _ _ _ hs)
  have hm := h.cellM hi
  rw [more_self] at hm
  exact ⟨(World.cell?_of_block e).trans hm.1, (World.frozen?_of_block e).trans hm.2⟩
theorem S2.drew (h : S2 base gL A n c w B d W i k) : S2 base gL A n c w B d W.drew i k :=
  ⟨below_drew1 h.below, h.size, h.lsB, fun j hj => (h.rows j hj).keep fun _ _ => rfl, h.long, fun j hj => (h.grow j hj).keep fun _ _ => rfl, h.ne, h.far⟩
theorem more_two {j : Nat} (hj : j < 2) : more 2 0 j = 16 := by rw [more, if_pos hj]
end
set_option maxRecDepth 100000 in
set_option maxHeartbeats 8000000 in
theorem apart_two (gL oL cL base : Nat) (A : Nat → Option Addr) (n c : Nat → Nat) (w : World) (ht : Two base gL oL A n c w) (hc : 2 ≤ cL) :
    Calls Try.prog 16 #[.slice (some ⟨gL, oL, none⟩) 2 cL] w fun e w' => e = .returned (.bool true) ∧ Below base w w' := by
  have T := Aside0.mk ht
  clear ht
  have hmk : ∀ w_ : World, (Instr.makeSlice 39 (.int .i64 2) (.int .i64 2)).run Try.prog w_ = .ok (.slice (some ⟨w_.heap.size, 0, none⟩) 2 2) (w_.alloc (.cells #[.slice none 0 0, .slice none 0 0] 23)) := fun _ => by kernel_rfl
  go_enter Try.func16, Try.ntmps16
  go_wp2
  go_loopw [4] (fun v4 wr => ∃ i : Nat, i ≤ 2 ∧ v4 = .int .i64 i ∧ Aside0 (S1 base gL A n c w wr i 0)) (fun v _ => 2 - (intOf v).toNat)
  case atStart => exact ⟨0, by omega, rfl, ⟨S1.first T.out⟩⟩
  case round =>
    obtain ⟨i, hi2, rfl, HS⟩ := hrel
    have hw1 : wrap64 ((i : Int) + 1) = ((i + 1 : Nat) : Int) := by unfold wrap64; omega
    by_cases hi : i < 2
    · have q0 : (0 : Int) ≤ (i : Int) := by omega
      have q1 : decide ((i : Int) < 2) = true := decide_eq_true (by omega)
      have hni := T.out.few i hi
      have hm1 : wrap64 ((i : Int) * 1000003) = (i : Int) * 1000003 := by unfold wrap64; omega
      go_wp2
      go_loopw [5] (fun v5 wr => ∃ k : Nat, k ≤ n i ∧ v5 = .int .i64 k ∧ Aside0 (S1 base gL A n c w wr i k)) (fun v _ => n i - (intOf v).toNat)
      case atStart => exact ⟨0, by omega, rfl, HS⟩
      case round =>
        clear HS
        obtain ⟨k, hkn, rfl, HS⟩ := hrel
        have hw2 : wrap64 ((k : Int) + 1) = ((k + 1 : Nat) : Int) := by unfold wrap64; omega
        have hm2 : wrap64 ((i : Int) * 1000003 + (k : Int)) = markI i k := by unfold markI wrap64; omega
        by_cases hk : k < n i
        · have q2 : (0 : Int) ≤ (k : Int) := by omega
          have q3 : decide ((k : Int) < (n i : Int)) = true := decide_eq_true (by omega)
          obtain ⟨f, hf, hm⟩ := HS.out.rows
          obtain ⟨g, hg, x0, x1⟩ := (hf i hi).at_ hk
          have hLi := HS.out.cellL T.out hi
          rw [hg] at hLi
          have HG := Aside0.mk hg
          clear hf hm hg
          go_wp2
          exact ⟨⟨k + 1, by omega, by simp, ⟨HS.out.put T.out hi hk HG.out⟩⟩, by simp [intOf]; omega⟩
        · obtain rfl : k = n i := by omega
          have hLi := HS.out.cellL T.out hi
          obtain ⟨⟨u, x0⟩, x1⟩ := HS.out.cellM hi
          go_wp2
          exact ⟨⟨i + 1, by omega, by simp, ⟨HS.out.next T.out hi⟩⟩, by simp [intOf]; omega⟩
    · obtain rfl : i = 2 := by omega
      have HS2 := Aside0.mk (S2.first HS.out T.out)
      clear HS
      go_wp2
      go_loopw [6] (fun v6 wr => ∃ (i : Nat) (B : Nat → Option Addr) (d : Nat → Nat), i ≤ 2 ∧ v6 = .int .i64 i ∧ Aside0 (S2 base gL A n c w B d wr i 0)) (fun v _ => 2 - (intOf v).toNat)
      case atStart => exact ⟨0, A, c, by omega, rfl, HS2⟩
      case round =>
        clear HS2
        obtain ⟨i, B, d, hi2, rfl, HS⟩ := hrel
        have hw1 : wrap64 ((i : Int) + 1) = ((i + 1 : Nat) : Int) := by unfold wrap64; omega
        by_cases hi : i < 2
        · have q0 : (0 : Int) ≤ (i : Int) := by omega
          have q1 : decide ((i : Int) < 2) = true := decide_eq_true (by omega)
          have hni := T.out.few i hi
          have hm1 : wrap64 (-(i : Int)) = -(i : Int) := by unfold wrap64; omega
          have hm2 : wrap64 (-(i : Int) * 1000003) = -(i : Int) * 1000003 := by unfold wrap64; omega
          go_wp2
          go_loopw [7] (fun v7 wr => ∃ (k : Nat) (B : Nat → Option Addr) (d : Nat → Nat), k ≤ 16 ∧ v7 = .int .i64 k ∧ Aside0 (S2 base gL A n c w B d wr i k)) (fun v _ => 16 - (intOf v).toNat)
          case atStart => exact ⟨0, B, d, by omega, rfl, HS⟩
          case round =>
            clear HS
            obtain ⟨k, B, d, hk2, rfl, HS⟩ := hrel
            have hw2 : wrap64 ((k : Int) + 1) = ((k + 1 : Nat) : Int) := by unfold wrap64; omega
            by_cases hk : k < 16
            · have q2 : (0 : Int) ≤ (k : Int) := by omega
              have q3 : decide ((k : Int) < 16) = true := decide_eq_true (by omega)
              have hm3 : wrap64 (-(i : Int) * 1000003 - (k : Int)) = -(i : Int) * 1000003 - (k : Int) := by unfold wrap64; omega
              have hm4 : wrap64 (-(i : Int) * 1000003 - (k : Int) - 1) = appI i k := by unfold wrap64 appI; omega
              obtain ⟨x0, x1⟩ := HS.out.cellM hi
              rw [more_self] at x0
              have hg := HS.out.grow i hi
              rw [more_self] at hg
              have HG := Aside0.mk hg
              have hbs : base ≤ wr.heap.size := by have := HS.out.size; have := T.out.le; have := T.out.lt; omega
              clear hg
              go_wp2_with ((with_reducible refine gate_builtin (b := .append) (xs := #[.tmp 61, .tmp 68]) rfl ?_); at_builtin; refine append_walk rfl (.tmp 61) (.tmp 68) rfl HG.out hbs (by omega) (appI i k) rfl rfl ?_; intro A' c' W' g1 g2 g3 g4; have y0 := (HS.out.mid hi g2).1; have y1 := (HS.out.mid hi g2).2; have G1 := Aside0.mk g1; have G2 := Aside0.mk g2; have G3 := Aside0.mk g3; have G4 := Aside0.mk g4; clear g1 g2 g3 g4 x0 x1)
              go_roundw
              case rel =>
                have R := HS.out.app T.out hi G1.out G2.out G3.out G4.out
                first
                  | exact ⟨k + 1, _, _, by omega, by first | rfl | (rw [hw2]; done) | (simp; done) | go_num, ⟨R⟩⟩
                  | ((repeat apply Exists.intro); exact ⟨⟨k + 1, _, _, by omega, by first | rfl | (rw [hw2]; done) | (simp; done) | go_num, ⟨R⟩⟩, rfl⟩)
                  | trace_state
              case measure => simp [intOf]; omega
            · obtain rfl : k = 16 := by omega
              have HS' := Aside0.mk HS.out.next
              clear HS
              go_wp2
              exact ⟨⟨i + 1, B, d, by omega, by simp, HS'⟩, by simp [intOf]; omega⟩
        · obtain rfl : i = 2 := by omega
          go_wp2
          go_loopw [8] (fun v8 wr => ∃ i : Nat, i ≤ 2 ∧ v8 = .int .i64 i ∧ Aside0 (S2 base gL A n c w B d wr 2 0)) (fun v _ => 2 - (intOf v).toNat)
          case atStart => exact ⟨0, by omega, rfl, HS⟩
          case round =>
            clear HS
            obtain ⟨i, hi2, rfl, HS⟩ := hrel
            have hw1 : wrap64 ((i : Int) + 1) = ((i + 1 : Nat) : Int) := by unfold wrap64; omega
            by_cases hi : i < 2
            · have q0 : (0 : Int) ≤ (i : Int) := by omega
              have q1 : decide ((i : Int) < 2) = true := decide_eq_true (by omega)
              have hni := T.out.few i hi
              have hm1 : wrap64 ((i : Int) * 1000003) = (i : Int) * 1000003 := by unfold wrap64; omega
              go_wp2
              go_loopw [9] (fun v9 wr => ∃ k : Nat, k ≤ n i ∧ v9 = .int .i64 k ∧ Aside0 (S2 base gL A n c w B d wr 2 0)) (fun v _ => n i - (intOf v).toNat)
              case atStart => exact ⟨0, by omega, rfl, HS⟩
              case round =>
                clear HS
                obtain ⟨k, hkn, rfl, HS⟩ := hrel
                have hw2 : wrap64 ((k : Int) + 1) = ((k + 1 : Nat) : Int) := by unfold wrap64; omega
                have hm2 : wrap64 ((i : Int) * 1000003 + (k : Int)) = (i : Int) * 1000003 + (k : Int) := by unfold wrap64; omega
                have hLi := HS.out.cellL T.out hi
                have hMi := (HS.out.cellM hi).1
                rw [more_two hi] at hMi
                by_cases hk : k < n i
                · have q2 : (0 : Int) ≤ (k : Int) := by omega
                  have q3 : decide ((k : Int) < (n i : Int)) = true := decide_eq_true (by omega)
                  obtain ⟨g, hg, x0, _⟩ := (HS.out.rows i hi).at_ hk
                  have hgr := HS.out.grow i hi
                  rw [more_two hi] at hgr
                  obtain ⟨g', hg', z0, _⟩ := hgr.at_ (t := k) (by omega)
                  rw [longI, if_pos hk] at z0
                  rw [hg] at hLi
                  rw [hg'] at hMi
                  have x0' : wr.cell? ⟨g, k, none⟩ = some (.int .i64 ((i : Int) * 1000003 + (k : Int))) := x0
                  have z0' : wr.cell? ⟨g', k, none⟩ = some (.int .i64 ((i : Int) * 1000003 + (k : Int))) := z0
                  have q4 : (k : Int) < (n i : Int) + 16 := by omega
                  clear hg hg' x0 z0 hgr
                  go_wp2
                  exact ⟨⟨k + 1, by omega, by simp, HS⟩, by simp [intOf]; omega⟩
                · obtain rfl : k = n i := by omega
                  clear hMi
                  go_wp2
                  go_loopw [10] (fun v10 wr => ∃ k : Nat, k ≤ 16 ∧ v10 = .int .i64 k ∧ Aside0 (S2 base gL A n c w B d wr 2 0)) (fun v _ => 16 - (intOf v).toNat)
                  case atStart => exact ⟨0, by omega, rfl, HS⟩
                  case round =>
                    clear HS hLi
                    obtain ⟨k, hkn, rfl, HS⟩ := hrel
                    have hw3 : wrap64 ((k : Int) + 1) = ((k + 1 : Nat) : Int) := by unfold wrap64; omega
                    have hLi := HS.out.cellL T.out hi
                    have hMi := (HS.out.cellM hi).1
                    rw [more_two hi] at hMi
                    by_cases hk : k < 16
                    · have q2 : (0 : Int) ≤ (k : Int) := by omega
                      have q3 : decide ((k : Int) < 16) = true := decide_eq_true (by omega)
                      have qi : (i : Int) < 2 := by omega
                      have q4 : ((n i : Int) + (k : Int)) < (n i : Int) + 16 := by omega
                      have q5 : (0 : Int) ≤ (n i : Int) + (k : Int) := by omega
                      have q6 : ((n i : Int) + (k : Int)).toNat = n i + k := by omega
                      have q7 : n i + k < n i + 16 := by omega
                      have q8 : ¬ (n i + k < n i) := by omega
                      have hw4 : wrap64 ((n i : Int) + (k : Int)) = (n i : Int) + (k : Int) := w64' (by omega) (by omega)
                      have hm5 : wrap64 (-(i : Int)) = -(i : Int) := w64' (by clear hw4 HS; omega) (by clear hw4 HS; omega)
                      have hm6 : wrap64 (-(i : Int) * 1000003) = -(i : Int) * 1000003 := w64' (by clear hw4 HS; omega) (by clear hw4 HS; omega)
                      have hm7 : wrap64 (-(i : Int) * 1000003 - (k : Int)) = -(i : Int) * 1000003 - (k : Int) := w64' (by clear hw4 HS; omega) (by clear hw4 HS; omega)
                      have hm8 : wrap64 (-(i : Int) * 1000003 - (k : Int) - 1) = -(i : Int) * 1000003 - (k : Int) - 1 := w64' (by clear hw4 HS; omega) (by clear hw4 HS; omega)
                      have hgr := HS.out.grow i hi
                      rw [more_two hi] at hgr
                      obtain ⟨g', hg', z0, _⟩ := hgr.at_ (t := n i + k) q7
                      rw [longI, if_neg q8, Nat.add_sub_cancel_left] at z0
                      rw [hg'] at hMi
                      have z0' : wr.cell? ⟨g', n i + k, none⟩ = some (.int .i64 (-(i : Int) * 1000003 - (k : Int) - 1)) := z0
                      have iw := wrap_i64
                      have hw5 : IntKind.i64.wrap ((n i : Int) + (k : Int)) = (n i : Int) + (k : Int) := (iw _).trans hw4
                      have hn5 : IntKind.i64.wrap (-(i : Int)) = -(i : Int) := (iw _).trans hm5
                      have hn6 : IntKind.i64.wrap (-(i : Int) * 1000003) = -(i : Int) * 1000003 := (iw _).trans hm6
                      have hn7 : IntKind.i64.wrap (-(i : Int) * 1000003 - (k : Int)) = -(i : Int) * 1000003 - (k : Int) := (iw _).trans hm7
                      have hn8 : IntKind.i64.wrap (-(i : Int) * 1000003 - (k : Int) - 1) = -(i : Int) * 1000003 - (k : Int) - 1 := (iw _).trans hm8
                      clear iw hg' z0 hgr q7 q8
                      go_wp2
                      go_region_held3 (fun W' => S2 base gL A n c w B d W' 2 0 ∧ W'.cell? ⟨gL, oL + i, none⟩ = some (.slice (A i) (n i) (c i)) ∧ W'.cell? ⟨w.heap.size, i, none⟩ = some (.slice (some ⟨g', 0, none⟩) (n i + 16) (d i)) ∧ W'.cell? ⟨g', n i + k, none⟩ = some (.int .i64 (-(i : Int) * 1000003 - (k : Int) - 1))) ((first | assumption | exact ⟨HS.out.drew, hLi, hMi, z0'⟩)) (fail)
                      all_goals go_wp2
                      all_goals clear hw4 hw5 hm5 hm6 hm7 hm8 hn5 hn6 hn7 hn8
                      all_goals exact ⟨⟨k + 1, by omega, by simp, ⟨HS.out.drew⟩⟩, by simp [intOf]; omega⟩
                    · obtain rfl : k = 16 := by omega
                      go_wp2
                      exact ⟨⟨i + 1, by omega, by simp, HS⟩, by simp [intOf]; omega⟩
            · obtain rfl : i = 2 := by omega
              go_wp2
              go_ret
              exact ⟨rfl, HS.out.below⟩
end Go.Proofs.Yteleiocdjcdgcaa.X
