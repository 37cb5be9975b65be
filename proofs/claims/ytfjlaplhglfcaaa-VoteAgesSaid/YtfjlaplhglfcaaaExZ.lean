/- Regions whose order is drawn: one more operation done. -/
import Derived.Test.YtfjlaplhglfcaaaExY
namespace Go.Proofs.Ytfjlaplhglfcaaa.Ex
open Go
set_option linter.unusedVariables false
set_option linter.unusedSimpArgs false
section
variable {P : Program}
/-- The setting: the run in the order of the text, what is calm, and a done-set with one more operation. -/
structure Next (P : Program) (ops : Array Oper) (f : Nat → Fr) (h : Nat → Hp) (s : Nat → Step) (S : Nat → Bool) (i : Nat) (o : Oper) (r : Res) : Prop where
  lt : i < ops.size
  op : ops[i]? = some o
  notyet : S i = false
  before : ∀ k, k < i → S k = false → clash (s k) (s i) = false ∧ Oper.apart ops (ops.getD k default) o = true
  after : ∀ k, i < k → k < ops.size → S k = true → clash (s i) (s k) = false ∧ Oper.apart ops o (ops.getD k default) = true
  mono : ∀ j k, j ≤ k → k ≤ ops.size → (h j).length ≤ (h k).length
  rng : ∀ k, k < ops.size → (s k).lo = (h k).length ∧ (s k).hi = (h (k + 1)).length
  tmpk : ∀ t k, k < ops.size → touchT ops t k = false → (f (k + 1)).get t = (f k).get t
  blkk : ∀ id k, k < ops.size → touchB s id k = false → (h (k + 1)).getD id .dead = (h k).getD id .dead
  flen : (f i).n = (f 0).n
  fr : f (i + 1) = putT (f i) o.dst r.v
  hp : h (i + 1) = r.hp
  wr : (s i).wr = r.wr
  shape : Shape (s i).rd (h i) r
variable {ops : Array Oper} {f : Nat → Fr} {h : Nat → Hp} {s : Nat → Step} {S : Nat → Bool} {i : Nat} {o : Oper} {r : Res}
theorem clash_rd {s t : Step} (h : clash s t = false) {b : Nat} : (b ∈ t.rd → hits s b = false) ∧ (b ∈ t.wr → hits s b = false) ∧ (b ∈ s.rd → hits t b = false) ∧ (b ∈ s.wr → hits t b = false) := by
  unfold clash at h
  simp only [Bool.or_eq_false_iff] at h
  obtain ⟨⟨⟨h1, h2⟩, h3⟩, h4⟩ := h
  exact ⟨fun hb => by simpa using List.any_eq_false.1 h1 b hb, fun hb => by simpa using List.any_eq_false.1 h2 b hb, fun hb => by simpa using List.any_eq_false.1 h3 b hb, fun hb => by simpa using List.any_eq_false.1 h4 b hb⟩
/-- What it looks at is as the text shows it. -/
theorem Next.tmp (N : Next P ops f h s S i o r) {t : Nat} (ht : t ∈ o.looksAt ops) : (curT ops f S t).1 ≤ i ∧ (curT ops f S t).2 = (f i).get t := by
  have hd : ∀ k, touchT ops t k = true → (ops.getD k default).dst = some t := fun k hk => by
    unfold touchT at hk
    cases hx : ops[k]? with
    | none => rw [hx] at hk; simp at hk
    | some x =>
      rw [hx] at hk
      rw [Array.getD_eq_getD_getElem?, hx]
      cases hy : x.dst with
      | none => simp [hy] at hk
      | some d => simp [hy] at hk; subst hk; exact hy
  refine cur_at (g := fun k => (f k).get t) (fun k hk hT => N.tmpk t k hk hT) (Nat.le_of_lt N.lt) (fun k hk hT => ?_) fun k hk hkn hT => ?_
  · cases hS : S k with
    | true => rfl
    | false => exact absurd ht ((Oper.apart_spec (N.before k hk hS).2).1 t (hd k hT))
  · cases hS : S k with
    | false => rfl
    | true =>
      by_cases e : k = i
      · rw [e, N.notyet] at hS; cases hS
      · exact absurd ht ((Oper.apart_spec (N.after k (by omega) hkn hS).2).2.2 t (hd k hT))
theorem Next.blk (N : Next P ops f h s S i o r) {b : Nat} (hb : b ∈ (s i).rd) : (curB ops h s S b).1 ≤ i ∧ (curB ops h s S b).2 = (h i).getD b .dead := by
  refine cur_at (g := fun k => (h k).getD b .dead) (fun k hk hT => N.blkk b k hk hT) (Nat.le_of_lt N.lt) (fun k hk hT => ?_) fun k hk hkn hT => ?_
  · cases hS : S k with
    | true => rfl
    | false =>
      have := (clash_rd (N.before k hk hS).1).1 hb
      unfold touchB at hT
      rw [this] at hT; cases hT
  · cases hS : S k with
    | false => rfl
    | true =>
      by_cases e : k = i
      · rw [e, N.notyet] at hS; cases hS
      · have := (clash_rd (N.after k (by omega) hkn hS).1 (b := b)).2.2.1 hb
        unfold touchB at hT
        rw [this] at hT; cases hT
/-- One more done. -/
def more (S : Nat → Bool) (i : Nat) : Nat → Bool := fun k => S k || k == i
theorem more_ne {k : Nat} (h : k ≠ i) : more S i k = S k := by simp [more, h]
theorem Next.touchT_i (N : Next P ops f h s S i o r) {t : Nat} : touchT ops t i = true ↔ o.dst = some t := by
  unfold touchT
  rw [N.op]
  cases hd : o.dst with
  | none => simp [hd]
  | some d => simp [hd]
theorem Next.tmp_other (N : Next P ops f h s S i o r) {t : Nat} (ht : o.dst ≠ some t) : curT ops f (more S i) t = curT ops f S t :=
  cur_other (i := i) (fun k hk => more_ne hk) (by
    cases hx : touchT ops t i with
    | false => rfl
    | true => exact absurd (N.touchT_i.1 hx) ht) _
theorem Next.tmp_done (N : Next P ops f h s S i o r) {t : Nat} (ht : o.dst = some t) : curT ops f (more S i) t = (i + 1, (f (i + 1)).get t) := by
  refine cur_done (g := fun k => (f k).get t) (S := S) N.lt (by simp [more]) (N.touchT_i.2 ht) fun k hk hkn hT => ?_
  rw [more_ne (by omega)]
  cases hS : S k with
  | false => rfl
  | true =>
    have := (Oper.apart_spec (N.after k hk hkn hS).2).2.1 t ht
    unfold touchT at hT
    cases hx : ops[k]? with
    | none => rw [hx] at hT; simp at hT
    | some x =>
      rw [hx] at hT
      rw [Array.getD_eq_getD_getElem?, hx] at this
      cases hy : x.dst with
      | none => simp [hy] at hT
      | some d => simp [hy] at hT; subst hT; exact absurd hy this
theorem Next.blk_other (N : Next P ops f h s S i o r) {b : Nat} (hb : hits (s i) b = false) : curB ops h s (more S i) b = curB ops h s S b :=
  cur_other (i := i) (fun k hk => more_ne hk) hb _
theorem Next.blk_done (N : Next P ops f h s S i o r) {b : Nat} (hb : hits (s i) b = true) : curB ops h s (more S i) b = (i + 1, (h (i + 1)).getD b .dead) := by
  refine cur_done (g := fun k => (h k).getD b .dead) (S := S) N.lt (by simp [more]) hb fun k hk hkn hT => ?_
  rw [more_ne (by omega)]
  cases hS : S k with
  | false => rfl
  | true =>
    have hc := clash_rd (N.after k hk hkn hS).1 (b := b)
    unfold touchB at hT
    have hb' := hb
    unfold hits at hb hT
    simp only [Bool.or_eq_true, Bool.and_eq_true, decide_eq_true_eq] at hb hT
    rcases hb with hb | hb
    · have := hc.2.2.2 (by simpa using hb)
      unfold hits at this
      simp only [Bool.or_eq_false_iff, Bool.and_eq_false_iff, decide_eq_false_iff_not] at this
      rcases hT with hT | hT
      · rw [hT] at this; cases this.1
      · rcases this.2 with q | q
        · exact absurd hT.1 q
        · exact absurd hT.2 q
    · rcases hT with hT | hT
      · have := hc.2.1 (by simpa using hT)
        rw [hb'] at this; cases this
      · have h1 := (N.rng i N.lt).2
        have h2 := (N.rng k hkn).1
        have h3 := N.mono (i + 1) k hk (Nat.le_of_lt hkn)
        omega
end
end Go.Proofs.Ytfjlaplhglfcaaa.Ex
