/- Small laws of my own on rows in memory: a block known whole as an owned row; make with a capacity; a slice with marked room behind it. -/
import Derived.Test.YtannklfnfacpeaaWWords
import Derived.Test.YtannklfnfacpeaaWLast
import Derived.Test.YtannklfnfacpeaaWMore
namespace Go.Proofs.Ytannklfnfacpeaa.HKit
open Go.RowKit Go.Proofs.YtannklfnfacpeaaW.PrintWords Go.Proofs.YtannklfnfacpeaaW.PrintLast Go.Proofs.YtannklfnfacpeaaW.PrintMore
set_option linter.unusedVariables false
set_option linter.unusedSimpArgs false
theorem heap_at (W : World) (o : Obj) (g : Nat) (h : g = W.heap.size) : (W.alloc o).heap[g]? = some o := by
  subst h
  simpa using heap_alloc_new W o
theorem own_of_heap {w : World} {base g e : Nat} {xs : List Value} (hg : base ≤ g) (hh : w.heap[g]? = some (.cells xs.toArray e (0, 0))) (hm : xs.length ≤ maxLen) :
    w.ownsRow base e 1 (.slice (some ⟨g, 0, none⟩) xs.length xs.length) xs.length xs :=
  ⟨by simp, .inr ⟨g, xs.length, xs.toArray, rfl, hg, hh, Nat.le_refl _, hm, by simp, by simp⟩⟩
theorem reps_ints (k : IntKind) (xs : List Int) {w : World} {base : Nat} {ok : Nat → Prop} : Reps ((Kd.int k).M w base ok) 1 xs (nums k xs) := by
  refine ⟨by simp [nums], ?_⟩
  intro j p hp
  obtain ⟨hj, rfl⟩ := List.getElem?_eq_some_iff.1 hp
  show (List.take 1 (List.drop (j * 1) (nums k xs))) = [Value.int k xs[j]]
  have e : (nums k xs).drop j = Value.int k xs[j] :: (nums k xs).drop (j + 1) := by
    rw [List.drop_eq_getElem_cons (by simpa [nums] using hj)]
    simp [nums]
  rw [Nat.mul_one, e]
  rfl
theorem R_of_heap {w : World} {base g e : Nat} {k : IntKind} {xs : List Int} (hg : base ≤ g) (hh : w.heap[g]? = some (.cells (nums k xs).toArray e (0, 0))) (hm : xs.length ≤ maxLen) :
    Kd.R (Kd.int k) e w base (fun _ => True) (.slice (some ⟨g, 0, none⟩) xs.length xs.length) xs := by
  have h := own_of_heap (xs := nums k xs) hg hh (by simpa [nums] using hm)
  have hl : (nums k xs).length = xs.length := by simp [nums]
  rw [hl] at h
  exact ⟨fun _ _ => trivial, nums k xs, h, reps_ints k xs⟩
theorem R_own_int {w : World} {base e : Nat} {k : IntKind} {v : Value} {xs : List Int} {ok : Nat → Prop} (h : Kd.R (Kd.int k) e w base ok v xs) : w.ownsRow base e 1 v xs.length (nums k xs) := by
  obtain ⟨_, inner, ho, hr⟩ := h
  have e : inner = nums k xs := by
    apply List.ext_getElem
    · have := hr.1
      simpa [nums, Kd.int, Kd.scalar] using this
    · intro i h1 h2
      have hi : i < xs.length := by simpa [nums] using h2
      have h3 := hr.2 i _ (List.getElem?_eq_getElem hi)
      change (List.take 1 (List.drop (i * 1) inner)) = [Value.int k xs[i]] at h3
      rw [Nat.mul_one, List.drop_eq_getElem_cons h1, List.take_succ_cons, List.take_zero] at h3
      injection h3 with h3 _
      rw [h3]
      simp [nums]
  rw [← e]
  exact ho
theorem R_of_own_int {w : World} {base e : Nat} {k : IntKind} {v : Value} {xs : List Int} (h : w.ownsRow base e 1 v xs.length (nums k xs)) : Kd.R (Kd.int k) e w base (fun _ => True) v xs := ⟨fun _ _ => trivial, nums k xs, h, reps_ints k xs⟩
section
variable {P : Program} {ops : Array Oper} {rest : List Oper} {o : Oper} {a : Act} {Q : Exit → Act → World → Prop} {α : Type}
/-- make([]T, 0, m): an empty row with room. -/
theorem R_make0 (d : Kd α) {w0 W : World} (base e : Nat) (hgd : o.guard = none) {N : Tmp} (hd : o.dst = some N) (t : TypeId) (x y : Operand) (ho : o.op = .makeSlice t x y) (m : Nat) (hx : a.eval x = .int .i64 0) (hy : a.eval y = .int .i64 (m : Int))
    (ht : P.underlying t = some (.slice e)) (z : Value) (bytes : Nat) (hinfo : (P.info? e).map (fun i => (i.zero, i.size, i.bytes)) = some (some z, d.sz, bytes)) (hb0 : 0 < bytes)
    (ok : Nat → Prop) (hfresh : ok W.heap.size) (hl : bytes * m ≤ 281474976710656) (HB : Below base w0 W) (hbase : base ≤ W.heap.size)
    (h : ∀ v1 w1, d.R e w1 base ok v1 [] → Below base w0 w1 → W.grownBy w1 none → (∃ A, v1 = .slice A 0 m) → wpList P ops Q rest (a.put o.dst v1) w1) : wpList P ops Q (o :: rest) a W := by
  obtain ⟨i0, hi, hzz⟩ := Option.map_eq_some_iff.1 hinfo
  simp only [Prod.mk.injEq] at hzz
  obtain ⟨hz0, hz1, hz2⟩ := hzz
  have hm : m ≤ 281474976710656 := Nat.le_trans (Nat.le_mul_of_pos_left _ hb0) hl
  obtain ⟨w', hr, hown, hg⟩ := run_make_own (P := P) W base t e i0 z d.sz ht hi hz0 hz1 .i64 .i64 m (by rw [hz2]; exact hl) (by simp only [maxLen]; omega) hbase
  refine Kd.event_run (P := P) (v := .slice (some ⟨W.heap.size, 0, none⟩) 0 m) hgd (w1 := w') ?_ (h _ _ ⟨fun k hk => ?_, [], hown, Reps.none _ _⟩ (HB.grown hg hbase (fun k hk => by cases hk)) hg ⟨_, rfl⟩)
  · simp [execOp, ho, hx, hy, hr]
  · have : W.heap.size = k := by simpa [Value.ownBlock] using hk
    subst this
    exact hfresh
end
def marks : List Int := [-7770777, -7770777, -7770777, -7770777]
/-- A slice of whole numbers (element type 3) in memory of its own, with the four marks in the room behind it. -/
def IsLent (w : World) (base : Nat) (v : Value) (l : List Int) : Prop := ∃ A c, v = .slice A l.length c ∧ l.length + 4 ≤ c ∧ Kd.R (Kd.int .i64) 3 w base (fun _ => True) (.slice A (l.length + 4) c) (l ++ marks)
theorem IsLent.row {w : World} {base : Nat} {v : Value} {l : List Int} (h : IsLent w base v l) : Kd.R (Kd.int .i64) 3 w base (fun _ => True) v l := by
  obtain ⟨A, c, rfl, hc, hr⟩ := h
  have := Kd.R_take (m := l.length) hr (by simp [marks])
  rwa [List.take_append_of_le_length (Nat.le_refl _), List.take_of_length_le (Nat.le_refl _)] at this
theorem IsLent.below {w w1 : World} {base : Nat} {v : Value} {l : List Int} (h : IsLent w base v l) (hb : Below w.heap.size w w1) : IsLent w1 base v l := by
  obtain ⟨A, c, rfl, hc, hr⟩ := h
  exact ⟨A, c, rfl, hc, Kd.R_below hr hb⟩
theorem IsLent.reads {w : World} {base : Nat} {v : Value} {l : List Int} (h : IsLent w base v l) : ∃ A c, v = .slice A l.length c ∧ l.length ≤ c ∧ Kd.C (Kd.int .i64) w A l.length l := Kd.R_reads h.row
theorem wf_i64 {x : Int} (h : (Lit.int .i64 x).wf = true) : -9223372036854775808 ≤ x ∧ x ≤ 9223372036854775807 := by
  simp [Lit.wf, IntKind.min, IntKind.max, IntKind.signed, IntKind.bits] at h
  omega
theorem wf_u8 {x : Int} (h : (Lit.int .u8 x).wf = true) : 0 ≤ x ∧ x ≤ 255 := by
  simp [Lit.wf, IntKind.min, IntKind.max, IntKind.signed, IntKind.bits] at h
  omega
end Go.Proofs.Ytannklfnfacpeaa.HKit
