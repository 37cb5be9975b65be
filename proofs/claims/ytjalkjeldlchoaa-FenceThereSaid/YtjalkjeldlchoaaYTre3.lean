import Derived.Test.YtjalkjeldlchoaaYTre2
import Derived.Below
import Derived.Deep.Draws
import Derived.Deep.AppendLies
import Derived.Maps.AppendAt
import Derived.OwnWalk
import Derived.Laws.BytesArg
import Derived.Laws.MakeOwn
import Derived.Laws.OwnMore
import Derived.Deep.OwnRows
import Derived.Tactics
import Derived.Lib.ConvBytes
import Derived.Laws.Slices
import Derived.WalkKit
import Derived.KernelRfl
import Derived.RowKit3
import Derived.Deep.LoopGhost
import Derived.Deep.QuietTactic
import Derived.BigQuiet
import Derived.WideLaws
import Derived.Deep.DeepCutAuto
import Derived.Deep.CutBlock
import Derived.Deep.RegionHeld3
import Derived.Laws.Rows
import Derived.Lib.AppendStr
import Derived.ArgAppend
import Derived.Laws.IdiomCopy
import Derived.RowKit
import Derived.OrdersHeld
import Derived.Laws.BitsLemmas
import Derived.Test.YtjalkjeldlchoaaProg
import Derived.RangeFuncNested
import Derived.RangeFuncBound
import Derived.RangeFuncCalls
import Derived.RangeFuncLeaves
import Derived.Shelf.Abstract
import Derived.OwnWalkIn
import Derived.TacticsInMore
import Derived.LoopNIn
import Derived.LoopIn
section
set_option linter.unusedSectionVars false
set_option linter.unusedSimpArgs false
set_option linter.unusedVariables false
-- PRINTED BY print.sh 35421559b90ae4d0a3588c463048766b98c2df88dd9212a6774a882060cdf62d: not written by this session
-- PRINTED WORDS (module Derived/Print/Words.lean): go-wishes' parts 1 to 38 and go-gate-2's additions: AI agents of Go's test side, Mon Nov 16 2026; no person has read them. Plain theorems and definitions: no macro, no elab, no axiom.
set_option linter.unusedVariables false
set_option linter.unusedSimpArgs false
namespace Go.Proofs.YtjalkjeldlchoaaW.PrintWords
open Go.RowKit

/-- A fact that the walk's simp doesn't look into. -/
structure Aside0 (p : Prop) : Prop where mk :: (out : p)
/-- The world is the old one, some orders having been drawn. -/
structure Drawn0 (w w' : World) : Prop where mk :: (out : ∃ n, w' = w.drewN n)
theorem Drawn0.refl (w : World) : Drawn0 w w := ⟨⟨0, rfl⟩⟩
theorem Drawn0.step {w w' : World} (h : Drawn0 w w') (n : Nat) : Drawn0 w (w'.drewN n) := by
  obtain ⟨m, rfl⟩ := h
  exact ⟨⟨m + n, World.drewN_drewN ..⟩⟩
theorem Drawn0.grown {w w' : World} (h : Drawn0 w w') : Grown w w' := by
  obtain ⟨n, rfl⟩ := h
  induction n with
  | zero => exact Grown.refl _
  | succ n ih => rw [← World.drew_drewN]; exact Grown.drew ih
theorem Drawn0.below {w w' : World} (h : Drawn0 w w') : Below w.heap.size w w' := by
  obtain ⟨n, rfl⟩ := h
  induction n with
  | zero => exact Below.refl _ _
  | succ n ih => rw [← World.drew_drewN]; exact ih.drew


def rd (xs : List Int) (i : Int) : Int := xs.getD i.toNat 0
theorem below_alloc {w W : World} (h : Below w.heap.size w W) (o : Obj) : Below w.heap.size w (W.alloc o) := h.alloc h.size o
theorem below_then {B : Nat} {w w1 w2 : World} (h : Below B w w1) (hB : B ≤ w1.heap.size) (k : Below w1.heap.size w1 w2) : Below B w w2 :=
  h.trans ⟨k.os, k.tape, k.output, k.size, fun i hi => k.block i (Nat.lt_of_lt_of_le hi hB)⟩
theorem grown_of_below {w w1 : World} (h : Below w.heap.size w w1) (row : Option Nat) : w.grownBy w1 row := ⟨h.os, h.tape, h.output, h.size, fun i hi _ => h.block i hi⟩
theorem pw_cell_below {w w1 : World} (h : Below w.heap.size w w1) {a : Addr} {v : Value} (hc : w.cell? a = some v) : w1.cell? a = some v := (h.cell (World.block_lt_of_cell? w a hc)).trans hc

def ReadsInt (w : World) (k : IntKind) (A : Option Addr) (n : Nat) (xs : List Int) : Prop :=
  xs.length = n ∧ n ≤ 9223372036854775807 ∧ (0 < n → ∃ ad, A = some ad ∧ ∀ j, j < n → w.cell? (ad.add j) = some (.int k (xs.getD j 0)))
theorem ReadsInt.at_ {w : World} {k : IntKind} {A : Option Addr} {n : Nat} {xs : List Int} (h : ReadsInt w k A n xs) (i : Int) (h0 : 0 ≤ i) (h1 : i < n) : ∃ ad, A = some ad ∧ w.cell? (ad.add i.toNat) = some (.int k (rd xs i)) := by
  obtain ⟨ad, e, hc⟩ := h.2.2 (by omega)
  exact ⟨ad, e, hc _ (by omega)⟩
theorem ReadsInt.below {w w1 : World} {k : IntKind} {A : Option Addr} {n : Nat} {xs : List Int} (h : ReadsInt w k A n xs) (hb : Below w.heap.size w w1) : ReadsInt w1 k A n xs :=
  ⟨h.1, h.2.1, fun hn => by
    obtain ⟨ad, e, hc⟩ := h.2.2 hn
    exact ⟨ad, e, fun j hj => pw_cell_below hb (hc j hj)⟩⟩

theorem own_base {w : World} {base : Nat} {e : TypeId} {size n : Nat} {v : Value} {xs : List Value} (h : w.ownsRow base e size v n xs) (k : Nat) (hk : v.ownBlock = some k) : base ≤ k := by
  rcases h.2 with ⟨rfl, _⟩ | ⟨g, cap, cur, rfl, hb, _⟩
  · simp [Value.ownBlock] at hk
  · have : g = k := by simpa [Value.ownBlock] using hk
    omega
theorem own_lt {w : World} {base : Nat} {e : TypeId} {size n : Nat} {v : Value} {xs : List Value} (h : w.ownsRow base e size v n xs) (k : Nat) (hk : v.ownBlock = some k) : k < w.heap.size := by
  rcases h.2 with ⟨rfl, _⟩ | ⟨g, cap, cur, rfl, hb, hh, _⟩
  · simp [Value.ownBlock] at hk
  · have : g = k := by simpa [Value.ownBlock] using hk
    subst this
    exact (Array.getElem?_eq_some_iff.1 hh).1
theorem pw_own_below {w w1 : World} {base : Nat} {e : TypeId} {size n : Nat} {v : Value} {xs : List Value} (h : w.ownsRow base e size v n xs) (hb : Below w.heap.size w w1) : w1.ownsRow base e size v n xs :=
  h.kept (grown_of_below hb none) (by cases v.ownBlock <;> simp)
theorem own_other {w w1 : World} {base : Nat} {e : TypeId} {size n : Nat} {v : Value} {xs : List Value} (h : w.ownsRow base e size v n xs) {row : Option Nat} (hg : w.grownBy w1 row) (hne : v.ownBlock = none ∨ v.ownBlock ≠ row) : w1.ownsRow base e size v n xs := h.kept hg hne
theorem own_slice {w : World} {base n : Nat} {e : TypeId} {size : Nat} {v : Value} {xs : List Value} (h : w.ownsRow base e size v n xs) : ∃ A c, v = .slice A n c := by
  rcases h.2 with ⟨rfl, rfl⟩ | ⟨g, cap, cur, rfl, _⟩
  · exact ⟨none, 0, rfl⟩
  · exact ⟨_, cap, rfl⟩
section
variable {P : Program} {ops : Array Oper} {rest : List Oper} {o : Oper} {a : Act} {Q : Exit → Act → World → Prop}

end

section
variable {P : Program}
end
section
variable {P : Program} {ops : Array Oper} {rest : List Oper} {o : Oper} {a : Act} {Q : Exit → Act → World → Prop}
end

def bytesOf (s : ByteArray) : List Int := s.data.toList.map fun b => (b.toNat : Int)
def LeO {α : Type} (a b : Option α) : Prop := ∀ r, a = some r → b = some r
theorem LeO.refl {α : Type} (a : Option α) : LeO a a := fun _ h => h
theorem LeO.none {α : Type} (b : Option α) : LeO Option.none b := fun _ h => by cases h
theorem LeO.trans {α : Type} {a b c : Option α} (h : LeO a b) (k : LeO b c) : LeO a c := fun r hr => k r (h r hr)
theorem LeO.ite {α : Type} {c : Prop} [Decidable c] {a a' b b' : Option α} (h : LeO a a') (k : LeO b b') : LeO (if c then a else b) (if c then a' else b') := by
  split
  · exact h
  · exact k
theorem LeO.bind {α β : Type} {a a' : Option α} {f f' : α → Option β} (h : LeO a a') (k : ∀ x, LeO (f x) (f' x)) : LeO (a.bind f) (a'.bind f') := by
  intro r hr
  obtain ⟨x, hx, hf⟩ := Option.bind_eq_some_iff.1 hr
  exact Option.bind_eq_some_iff.2 ⟨x, h x hx, k x r hf⟩
theorem LeO.map {α β : Type} {a a' : Option α} (f : α → β) (h : LeO a a') : LeO (a.map f) (a'.map f) := by
  intro r hr
  obtain ⟨x, hx, hf⟩ := Option.map_eq_some_iff.1 hr
  exact Option.map_eq_some_iff.2 ⟨x, h x hx, hf⟩
theorem more_rounds {α : Type} {g : Nat → Option α} (h : ∀ k, LeO (g k) (g (k + 1))) (k : Nat) : ∀ j, LeO (g k) (g (k + j))
  | 0 => LeO.refl _
  | j + 1 => (more_rounds h k j).trans (h (k + j))
theorem at_rounds {α : Type} {g : Nat → Option α} (h : ∀ k, LeO (g k) (g (k + 1))) {k k' : Nat} (hk : k ≤ k') {r : α} (hr : g k = some r) : g k' = some r := by
  have := more_rounds h k (k' - k) r hr
  rwa [Nat.add_sub_cancel' hk] at this
def Reps {α : Type} (R : α → List Value → Prop) (size : Nat) (ps : List α) (cs : List Value) : Prop :=
  cs.length = ps.length * size ∧ ∀ j p, ps[j]? = some p → R p ((cs.drop (j * size)).take size)
theorem Reps.none {α : Type} (R : α → List Value → Prop) (size : Nat) : Reps R size [] [] := ⟨by simp, fun j p h => by simp at h⟩
theorem Reps.snoc {α : Type} {R : α → List Value → Prop} {size : Nat} {ps : List α} {cs c : List Value} {p : α} (h : Reps R size ps cs) (hp : R p c) (hc : c.length = size) : Reps R size (ps ++ [p]) (cs ++ c) := by
  refine ⟨by rw [List.length_append, h.1, hc, List.length_append, List.length_singleton, Nat.add_mul, Nat.one_mul], fun j q hq => ?_⟩
  rcases Nat.lt_or_ge j ps.length with hj | hj
  · rw [List.getElem?_append_left hj] at hq
    have h1 : j * size + size ≤ cs.length := by rw [h.1, ← Nat.succ_mul]; exact Nat.mul_le_mul_right _ hj
    have h2 := h.2 j q hq
    rw [List.drop_append_of_le_length (by omega), List.take_append_of_le_length (by rw [List.length_drop]; omega)]
    exact h2
  · have hj' : j = ps.length := by
      have := (List.getElem?_eq_some_iff.1 hq).1
      rw [List.length_append, List.length_singleton] at this
      omega
    subst hj'
    have hq' : p = q := by simpa using hq
    subst hq'
    rw [← h.1, List.drop_left, ← hc, List.take_length]
    exact hp
theorem Reps.imp_ {α : Type} {R R' : α → List Value → Prop} {size : Nat} {ps : List α} {cs : List Value} (h : Reps R size ps cs) (hR : ∀ p c, R p c → R' p c) : Reps R' size ps cs := ⟨h.1, fun j p hj => hR _ _ (h.2 j p hj)⟩

def ReadsRow {α : Type} (R : α → List Value → Prop) (size : Nat) (w : World) (A : Option Addr) (n : Nat) (ps : List α) : Prop :=
  ps.length = n ∧ n ≤ 9223372036854775807 ∧ (0 < n → ∃ ad, A = some ad ∧ ∀ j p, ps[j]? = some p → ∃ c, c.length = size ∧ R p c ∧ ∀ i u, c[i]? = some u → w.cell? (ad.add (j * size + i)) = some u)
theorem ReadsRow.get_ {α : Type} {R : α → List Value → Prop} {size : Nat} {w : World} {A : Option Addr} {n : Nat} {ps : List α} (h : ReadsRow R size w A n ps) (d : α) (i : Int) (h0 : 0 ≤ i) (h1 : i < n) :
    ∃ ad c, A = some ad ∧ c.length = size ∧ R (ps.getD i.toNat d) c ∧ ∀ j u, c[j]? = some u → w.cell? (ad.add (i.toNat * size + j)) = some u := by
  obtain ⟨ad, e, hc⟩ := h.2.2 (by omega)
  have hl : i.toNat < ps.length := by have := h.1; omega
  obtain ⟨c, hs, hr, hcell⟩ := hc i.toNat _ (List.getElem?_eq_getElem hl)
  refine ⟨ad, c, e, hs, ?_, hcell⟩
  rw [List.getD_eq_getElem?_getD, List.getElem?_eq_getElem hl]
  exact hr
theorem ReadsRow.imp_ {α : Type} {R R' : α → List Value → Prop} {size : Nat} {w w1 : World} {A : Option Addr} {n : Nat} {ps : List α} (h : ReadsRow R size w A n ps) (hb : Below w.heap.size w w1) (hR : ∀ p c, R p c → R' p c) : ReadsRow R' size w1 A n ps :=
  ⟨h.1, h.2.1, fun hn => by
    obtain ⟨ad, e, hc⟩ := h.2.2 hn
    refine ⟨ad, e, fun j p hj => ?_⟩
    obtain ⟨c, hs, hr, hcell⟩ := hc j p hj
    exact ⟨c, hs, hR _ _ hr, fun i u hu => pw_cell_below hb (hcell i u hu)⟩⟩
theorem own_reads_row {α : Type} {R : α → List Value → Prop} {w : World} {base n size : Nat} {e : TypeId} {v : Value} {ps : List α} {cs : List Value} (h : w.ownsRow base e size v n cs) (hR : Reps R size ps cs) (hn : ps.length = n) :
    ∃ A c, v = .slice A n c ∧ ReadsRow R size w A n ps := by
  rcases Nat.eq_zero_or_pos n with h0 | h0
  · rcases h.2 with ⟨rfl, rfl⟩ | ⟨g, cap, cur, rfl, _⟩
    · exact ⟨none, 0, rfl, hn, by omega, fun hp => absurd hp (by omega)⟩
    · exact ⟨_, cap, rfl, hn, by omega, fun hp => absurd hp (by omega)⟩
  · obtain ⟨g, cap, rfl, _, _⟩ := h.form h0
    have hm : n ≤ 9223372036854775807 := by
      rcases h.2 with ⟨_, h1⟩ | ⟨g', cap', cur, he, _, _, h1, h2, _⟩
      · omega
      · simp only [maxLen] at h2
        omega
    refine ⟨_, cap, rfl, hn, hm, fun _ => ⟨_, rfl, fun j p hj => ⟨(cs.drop (j * size)).take size, ?_, hR.2 j p hj, fun i u hu => ?_⟩⟩⟩
    · have hjl := (List.getElem?_eq_some_iff.1 hj).1
      have h1 : j * size + size ≤ cs.length := by rw [hR.1, ← Nat.succ_mul]; exact Nat.mul_le_mul_right _ hjl
      rw [List.length_take, List.length_drop]
      omega
    · refine h.cells (g := g) rfl _ u ?_
      rw [List.getElem?_take] at hu
      split at hu
      · rw [List.getElem?_drop] at hu
        exact hu
      · cases hu
theorem add_field (ad : Addr) (m j : Nat) (hj : 0 < j) : ad.add (m + j) = ⟨(ad.add m).block, (ad.add m).off + j, none⟩ := by
  unfold Addr.add
  by_cases hm : m = 0
  · subst hm
    simp [Nat.ne_of_gt hj]
  · simp [hm, Nat.add_assoc]

section
variable {P : Program} {ops : Array Oper} {rest : List Oper} {o : Oper} {a : Act} {Q : Exit → Act → World → Prop}
theorem print_append_cells {w0 W : World} (base : Nat) (hgd : o.guard = none) (s x : Operand) (t e : TypeId) (z : Value) (size bytes : Nat)
    (ho : o.op = .call { callee := .builtin .append, args := #[s, x], argTypes := #[t, t] })
    (ht : P.underlying t = some (.slice e)) (hinfo : (P.info? e).map (fun i => (i.zero, i.size, i.bytes)) = some (some z, size, bytes)) (hz : z.cells.size = size) (hs0 : 0 < size) (hb0 : 0 < bytes)
    (v : Value) (n : Nat) (xs ys : List Value) (hs : a.eval s = v) (hx : a.eval x = .slice (some ⟨W.heap.size, 0, none⟩) 1 1) (hys : ys.length = size) (h1 : ∀ u ∈ ys, u.oneCell' = true)
    (HO : W.ownsRow base e size v n xs) (HB : Below base w0 W) (hbase : base ≤ W.heap.size) (hl : (n + 1) * bytes ≤ 140737488355328)
    (h : ∀ v1 w1, w1.ownsRow base e size v1 (n + 1) (xs ++ ys) → Below base w0 w1 → W.grownBy w1 v.ownBlock → (v1.ownBlock = v.ownBlock ∨ ∃ b, v1.ownBlock = some b ∧ W.heap.size ≤ b) → wpList P ops Q rest (a.put o.dst v1) w1) :
    wpList P ops Q (o :: rest) a (W.alloc (.cells ys.toArray e)) := by
  obtain ⟨i0, hi, hzz⟩ := Option.map_eq_some_iff.1 hinfo
  simp only [Prod.mk.injEq] at hzz
  obtain ⟨hz0, hz1, hz2⟩ := hzz
  have hlen : n + 1 ≤ 140737488355328 := Nat.le_trans (Nat.le_mul_of_pos_right _ hb0) hl
  refine wpList_append_own_at (W.alloc (.cells ys.toArray e)) hgd s x t ho base e i0 z size bytes ht hi hz0 hz1 hz2 hz hs0 v n xs hs (HO.alloc _) ⟨W.heap.size, 0, none⟩ 1 1 ys hx (by rw [hys]; simp)
    (by simpa using World.news_of_block (cs := ys.toArray) (t := e) (fr := (0, 0)) (heap_alloc_new W (.cells ys.toArray e))) h1 (by simp only [maxLen]; omega) hl (by simp; omega) ?_
  intro v1 w1 hown hg _ hat
  refine h v1 w1 hown ((HB.alloc hbase _).grown hg (by simp; omega) (own_base HO)) (World.grownBy.trans (World.grownBy_alloc W _ _) hg) ?_
  rcases hat with hat | hat
  · exact .inl hat
  · exact .inr ⟨_, hat, by simp⟩
end

theorem own_ne {w : World} {base : Nat} {e t : TypeId} {size n g : Nat} {v : Value} {xs : List Value} {cs : Array Value} (h : w.ownsRow base e size v n xs) (hg : w.heap[g]? = some (.cells cs t (0, 0))) (hne : e ≠ t) : some g ≠ v.ownBlock := by
  rcases h.2 with ⟨rfl, _⟩ | ⟨g', cap, cur, rfl, _, hh, _⟩
  · simp [Value.ownBlock]
  · intro he
    have : g = g' := by simpa [Value.ownBlock] using he
    subst this
    rw [hg] at hh
    injection hh with hh
    injection hh with _ ht
    exact hne ht.symm
theorem blk_lt {w : World} {g : Nat} {o : Obj} (h : w.heap[g]? = some o) : g < w.heap.size := (Array.getElem?_eq_some_iff.1 h).1
def KeepBut (w w' : World) (g : Nat) (row : Option Nat) : Prop := w.heap.size ≤ w'.heap.size ∧ ∀ i, i < w.heap.size → i ≠ g → some i ≠ row → w'.heap[i]? = w.heap[i]?
theorem KeepBut.refl (w : World) (g : Nat) (row : Option Nat) : KeepBut w w g row := ⟨Nat.le_refl _, fun _ _ _ _ => rfl⟩
theorem KeepBut.of_below {w w1 : World} (h : Below w.heap.size w w1) (g : Nat) (row : Option Nat) : KeepBut w w1 g row := ⟨h.size, fun i hi _ _ => h.block i hi⟩
theorem KeepBut.trans {w w1 w2 : World} {g : Nat} {row row1 : Option Nat} (h : KeepBut w w1 g row) (k : KeepBut w1 w2 g row1) (hr : row1 = row ∨ ∃ b, row1 = some b ∧ w.heap.size ≤ b) : KeepBut w w2 g row :=
  ⟨Nat.le_trans h.1 k.1, fun i hi hg hn => by
    refine (k.2 i (Nat.lt_of_lt_of_le hi h.1) hg ?_).trans (h.2 i hi hg hn)
    rcases hr with rfl | ⟨b, rfl, hb⟩
    · exact hn
    · intro e
      injection e with e
      omega⟩
theorem KeepBut.blk {w w1 : World} {g g' : Nat} {row : Option Nat} {o : Obj} (h : KeepBut w w1 g row) (hb : w.heap[g']? = some o) (hg : g' ≠ g) (hr : some g' ≠ row) : w1.heap[g']? = some o := (h.2 g' (blk_lt hb) hg hr).trans hb
theorem KeepBut.own {w w1 : World} {g : Nat} {row : Option Nat} {base : Nat} {e : TypeId} {size n : Nat} {v : Value} {xs : List Value} (h : KeepBut w w1 g row) (ho : w.ownsRow base e size v n xs) (hg : v.ownBlock ≠ some g) (hr : v.ownBlock = none ∨ v.ownBlock ≠ row) : w1.ownsRow base e size v n xs := by
  obtain ⟨h1, h2⟩ := ho
  refine ⟨h1, ?_⟩
  rcases h2 with h2 | ⟨b, cap, cur, rfl, hb, hh, r⟩
  · exact .inl h2
  · refine .inr ⟨b, cap, cur, rfl, hb, h.blk hh ?_ ?_, r⟩
    · intro e
      exact hg (by rw [← e]; rfl)
    · rcases hr with hr | hr
      · simp [Value.ownBlock] at hr
      · exact hr
def Ev {α : Type} (g : Nat → Option α) (r : α) : Prop := ∃ K, ∀ k, K ≤ k → g k = some r
theorem Ev.of {α : Type} {g : Nat → Option α} {r : α} (hg : ∀ k, LeO (g k) (g (k + 1))) {k : Nat} (h : g k = some r) : Ev g r := ⟨k, fun _ hk => at_rounds hg hk h⟩
theorem Ev.now {α : Type} (r : α) : Ev (fun _ => some r) r := ⟨0, fun _ _ => rfl⟩
theorem Ev.rounds {α : Type} {g : Nat → Option α} {r : α} (h : Ev g r) : ∃ k, g k = some r := by
  obtain ⟨K, h⟩ := h
  exact ⟨K, h K (Nat.le_refl _)⟩
theorem Ev.bind {α β : Type} {g : Nat → Option α} {f : Nat → α → Option β} {a : α} {r : β} (h : Ev g a) (k : Ev (fun n => f n a) r) : Ev (fun n => (g n).bind (f n)) r := by
  obtain ⟨K, h⟩ := h
  obtain ⟨K', k⟩ := k
  refine ⟨max K K', fun n hn => ?_⟩
  have h1 := h n (by omega)
  have h2 := k n (by omega)
  simp only [h1, Option.bind_some]
  exact h2
theorem Ev.step {α : Type} {g f : Nat → Option α} {r : α} (h : ∀ k, g (k + 1) = f k) (k : Ev f r) : Ev g r := by
  obtain ⟨K, k⟩ := k
  refine ⟨K + 1, fun n hn => ?_⟩
  obtain ⟨m, rfl⟩ : ∃ m, n = m + 1 := ⟨n - 1, by omega⟩
  rw [h]
  exact k m (by omega)
theorem Ev.congr {α : Type} {g f : Nat → Option α} {r : α} (h : ∀ k, g k = f k) (k : Ev f r) : Ev g r := by
  obtain ⟨K, k⟩ := k
  exact ⟨K, fun n hn => (h n).trans (k n hn)⟩
section
variable {P : Program} {ops : Array Oper} {o : Oper} {a : Act} {Q : Exit → Act → World → Prop} {K : Act → World → Prop}
end
theorem own_weaken {w : World} {base base' : Nat} {e : TypeId} {size n : Nat} {v : Value} {xs : List Value} (h : w.ownsRow base e size v n xs) (hb : base' ≤ base) : w.ownsRow base' e size v n xs := by
  obtain ⟨h1, h2⟩ := h
  refine ⟨h1, ?_⟩
  rcases h2 with h2 | ⟨g, cap, cur, rfl, hg, r⟩
  · exact .inl h2
  · exact .inr ⟨g, cap, cur, rfl, Nat.le_trans hb hg, r⟩
section
variable {α : Type} {enc : α → Value} {d : α}
def rdOf (d : α) (xs : List α) (i : Int) : α := xs.getD i.toNat d
def ReadsOf (enc : α → Value) (d : α) (w : World) (A : Option Addr) (n : Nat) (xs : List α) : Prop :=
  xs.length = n ∧ n ≤ 9223372036854775807 ∧ (0 < n → ∃ ad, A = some ad ∧ ∀ j, j < n → w.cell? (ad.add j) = some (enc (xs.getD j d)))
theorem ReadsOf.at_ {w : World} {A : Option Addr} {n : Nat} {xs : List α} (h : ReadsOf enc d w A n xs) (i : Int) (h0 : 0 ≤ i) (h1 : i < n) : ∃ ad, A = some ad ∧ w.cell? (ad.add i.toNat) = some (enc (rdOf d xs i)) := by
  obtain ⟨ad, e, hc⟩ := h.2.2 (by omega)
  exact ⟨ad, e, hc _ (by omega)⟩
theorem ReadsOf.below {w w1 : World} {A : Option Addr} {n : Nat} {xs : List α} (h : ReadsOf enc d w A n xs) (hb : Below w.heap.size w w1) : ReadsOf enc d w1 A n xs :=
  ⟨h.1, h.2.1, fun hn => by
    obtain ⟨ad, e, hc⟩ := h.2.2 hn
    exact ⟨ad, e, fun j hj => pw_cell_below hb (hc j hj)⟩⟩
end
section
variable {α : Type} {P : Program} {ops : Array Oper} {rest : List Oper} {o : Oper} {a : Act} {Q : Exit → Act → World → Prop}
end

section
variable {P : Program}
end
theorem own_le {w : World} {base n m c size : Nat} {e : TypeId} {A : Option Addr} {xs : List Value} (h : w.ownsRow base e size (.slice A m c) n xs) : m ≤ c := by
  rcases h.2 with ⟨he, _⟩ | ⟨g, cap, cur, he, _, _, hnc, _⟩
  · injection he with _ h2 h3
    omega
  · injection he with _ h2 h3
    omega
def OwnRow {α : Type} (R : α → List Value → Prop) (e : TypeId) (size : Nat) (w : World) (base : Nat) (v : Value) (ps : List α) : Prop :=
  ∃ inner, w.ownsRow base e size v ps.length inner ∧ Reps R size ps inner
section
variable {α : Type} {R R' : α → List Value → Prop} {e : TypeId} {size : Nat} {w w1 : World} {base : Nat} {v : Value} {ps : List α}
theorem OwnRow.imp_ (h : OwnRow R e size w base v ps) (hR : ∀ p c, R p c → R' p c) : OwnRow R' e size w base v ps := by
  obtain ⟨inner, ho, hr⟩ := h
  exact ⟨inner, ho, hr.imp_ hR⟩
theorem OwnRow.below (h : OwnRow R e size w base v ps) (hb : Below w.heap.size w w1) : OwnRow R e size w1 base v ps := by
  obtain ⟨inner, ho, hr⟩ := h
  exact ⟨inner, pw_own_below ho hb, hr⟩
theorem OwnRow.other (h : OwnRow R e size w base v ps) {row : Option Nat} (hg : w.grownBy w1 row) (hne : v.ownBlock = none ∨ v.ownBlock ≠ row) : OwnRow R e size w1 base v ps := by
  obtain ⟨inner, ho, hr⟩ := h
  exact ⟨inner, own_other ho hg hne, hr⟩
theorem OwnRow.keep (h : OwnRow R e size w base v ps) {g : Nat} {t : TypeId} {cells : Array Value} (hb : w.heap[g]? = some (.cells cells t (0, 0))) (ht : e ≠ t) (hk : KeepBut w w1 g none) : OwnRow R e size w1 base v ps := by
  obtain ⟨inner, ho, hr⟩ := h
  exact ⟨inner, hk.own ho (Ne.symm (own_ne ho hb ht)) (by cases v.ownBlock <;> simp), hr⟩
theorem OwnRow.reads (h : OwnRow R e size w base v ps) : ∃ A c, v = .slice A ps.length c ∧ ps.length ≤ c ∧ ReadsRow R size w A ps.length ps := by
  obtain ⟨inner, ho, hr⟩ := h
  obtain ⟨A, c, rfl, hrow⟩ := own_reads_row ho hr rfl
  exact ⟨A, c, rfl, own_le ho, hrow⟩
end
section
variable {P : Program} {ops : Array Oper} {rest : List Oper} {o : Oper} {a : Act} {Q : Exit → Act → World → Prop} {α : Type} {R : α → List Value → Prop}
theorem OwnRow.append {w0 W : World} (base : Nat) (hgd : o.guard = none) (s x : Operand) (t e : TypeId) (z : Value) (size bytes : Nat)
    (ho : o.op = .call { callee := .builtin .append, args := #[s, x], argTypes := #[t, t] })
    (ht : P.underlying t = some (.slice e)) (hinfo : (P.info? e).map (fun i => (i.zero, i.size, i.bytes)) = some (some z, size, bytes)) (hz : z.cells.size = size) (hs0 : 0 < size) (hb0 : 0 < bytes)
    (v : Value) (ps : List α) (p : α) (cs : List Value) (hs : a.eval s = v) (hx : a.eval x = .slice (some ⟨W.heap.size, 0, none⟩) 1 1) (hp : R p cs) (hcs : cs.length = size) (h1 : ∀ u ∈ cs, u.oneCell' = true)
    (HO : OwnRow R e size W base v ps) (HB : Below base w0 W) (hbase : base ≤ W.heap.size) (hl : (ps.length + 1) * bytes ≤ 140737488355328)
    (h : ∀ v1 w1, OwnRow R e size w1 base v1 (ps ++ [p]) → Below base w0 w1 → W.grownBy w1 v.ownBlock → (v1.ownBlock = v.ownBlock ∨ ∃ b, v1.ownBlock = some b ∧ W.heap.size ≤ b) → wpList P ops Q rest (a.put o.dst v1) w1) :
    wpList P ops Q (o :: rest) a (W.alloc (.cells cs.toArray e)) := by
  obtain ⟨inner, hown, hr⟩ := HO
  refine print_append_cells base hgd s x t e z size bytes ho ht hinfo hz hs0 hb0 v ps.length inner cs hs hx hcs h1 hown HB hbase hl ?_
  intro v1 w1 hown1 hb1 hg1 hat1
  exact h v1 w1 ⟨inner ++ cs, by rw [List.length_append, List.length_singleton]; exact hown1, hr.snoc hp hcs⟩ hb1 hg1 hat1
end
section
variable {P : Program} {ops : Array Oper} {o : Oper} {a : Act} {Q : Exit → Act → World → Prop} {K : Act → World → Prop} {α : Type} {R : α → List Value → Prop}
end
section
variable {α : Type} {P : Program}
theorem ReadsOf.len_ {enc : α → Value} {d : α} {w : World} {A : Option Addr} {n : Nat} {xs : List α} (h : ReadsOf enc d w A n xs) : ReadsOf enc d w A xs.length xs := by rw [h.1]; exact h
end

section
variable {P : Program} {ops : Array Oper} {rest : List Oper} {o : Oper} {a : Act} {Q : Exit → Act → World → Prop}
end
/-- ok: which blocks the rows inside may be ('not the row that is being written'). -/
structure Kd (α : Type) where
  sz : Nat
  E : List Nat
  K : World → α → List Value → Prop
  M : World → Nat → (Nat → Prop) → α → List Value → Prop
  K_len : ∀ {w x cs}, K w x cs → cs.length = sz
  K_one : ∀ {w x cs}, K w x cs → ∀ u ∈ cs, u.oneCell' = true
  K_below : ∀ {w w1 : World} {x cs}, Below w.heap.size w w1 → K w x cs → K w1 x cs
  K_of_M : ∀ {w base ok x cs}, M w base ok x cs → K w x cs
  M_mono : ∀ {w base ok ok' x cs}, (∀ k, ok k → ok' k) → M w base ok x cs → M w base ok' x cs
  M_bound : ∀ {w : World} {base ok x cs}, M w base ok x cs → M w base (fun k => ok k ∧ base ≤ k ∧ k < w.heap.size ∧ ∃ q, q ∈ E ∧ ∃ cells, w.heap[k]? = some (.cells cells q (0, 0))) x cs
  M_move : ∀ {w w1 : World} {base ok x cs}, (∀ k, ok k → w1.heap[k]? = w.heap[k]?) → M w base ok x cs → M w1 base ok x cs
  M_lower : ∀ {w base base' ok x cs}, base' ≤ base → M w base ok x cs → M w base' ok x cs

theorem own_move {w w1 : World} {base : Nat} {e : TypeId} {size n : Nat} {v : Value} {xs : List Value} (h : w.ownsRow base e size v n xs) (hm : ∀ k, v.ownBlock = some k → w1.heap[k]? = w.heap[k]?) : w1.ownsRow base e size v n xs := by
  obtain ⟨h1, h2⟩ := h
  refine ⟨h1, ?_⟩
  rcases h2 with h2 | ⟨g, cap, cur, rfl, hg, hh, r⟩
  · exact .inl h2
  · exact .inr ⟨g, cap, cur, rfl, hg, (hm g (by simp [Value.ownBlock])).trans hh, r⟩
theorem own_typed {w : World} {base : Nat} {e : TypeId} {size n : Nat} {v : Value} {xs : List Value} (h : w.ownsRow base e size v n xs) (k : Nat) (hk : v.ownBlock = some k) : ∃ cells, w.heap[k]? = some (.cells cells e (0, 0)) := by
  rcases h.2 with ⟨rfl, _⟩ | ⟨g, cap, cur, rfl, hg, hh, r⟩
  · simp [Value.ownBlock] at hk
  · have : g = k := by simpa [Value.ownBlock] using hk
    subst this
    exact ⟨cur, hh⟩

namespace Kd
def C {α : Type} (d : Kd α) (w : World) (A : Option Addr) (n : Nat) (xs : List α) : Prop := ReadsRow (d.K w) d.sz w A n xs
def R {α : Type} (d : Kd α) (e : Nat) (w : World) (base : Nat) (ok : Nat → Prop) (v : Value) (xs : List α) : Prop :=
  (∀ k, v.ownBlock = some k → ok k) ∧ OwnRow (d.M w base (fun k => ok k ∧ some k ≠ v.ownBlock)) e d.sz w base v xs
section
variable {α : Type} {d : Kd α} {e : Nat} {w w1 : World} {base : Nat} {ok ok' : Nat → Prop} {v : Value} {xs : List α}
theorem C_below {A : Option Addr} {n : Nat} (h : d.C w A n xs) (hb : Below w.heap.size w w1) : d.C w1 A n xs := ReadsRow.imp_ h hb (fun _ _ hp => d.K_below hb hp)
theorem R_mono (h : d.R e w base ok v xs) (hok : ∀ k, ok k → ok' k) : d.R e w base ok' v xs := ⟨fun k hk => hok k (h.1 k hk), h.2.imp_ (fun _ _ hp => d.M_mono (fun k hk => ⟨hok k hk.1, hk.2⟩) hp)⟩
theorem R_bound (h : d.R e w base ok v xs) : d.R e w base (fun k => ok k ∧ base ≤ k ∧ k < w.heap.size ∧ ∃ q, q ∈ e :: d.E ∧ ∃ cells, w.heap[k]? = some (.cells cells q (0, 0))) v xs := by
  obtain ⟨h0, inner, ho, hr⟩ := h
  refine ⟨fun k hk => ?_, inner, ho, hr.imp_ (fun _ _ hp => d.M_mono (fun k hk => ?_) (d.M_bound hp))⟩
  · obtain ⟨cells, hc⟩ := own_typed ho k hk
    exact ⟨h0 k hk, own_base ho k hk, own_lt ho k hk, e, List.mem_cons_self, cells, hc⟩
  · obtain ⟨⟨h1, h2⟩, h3, h4, q, hq, hc⟩ := hk
    exact ⟨⟨h1, h3, h4, q, List.mem_cons_of_mem _ hq, hc⟩, h2⟩
theorem R_move (h : d.R e w base ok v xs) (hm : ∀ k, ok k → w1.heap[k]? = w.heap[k]?) : d.R e w1 base ok v xs := by
  obtain ⟨h0, inner, ho, hr⟩ := h
  exact ⟨h0, inner, own_move ho (fun k hk => hm k (h0 k hk)), hr.imp_ (fun _ _ hp => d.M_move (fun k hk => hm k hk.1) hp)⟩
theorem R_lower {base' : Nat} (h : d.R e w base ok v xs) (hb : base' ≤ base) : d.R e w base' ok v xs := by
  obtain ⟨h0, inner, ho, hr⟩ := h
  exact ⟨h0, inner, own_weaken ho hb, hr.imp_ (fun _ _ hp => d.M_lower hb hp)⟩
theorem R_step (h : d.R e w base ok v xs) (hm : ∀ k, ok k → k < w.heap.size → w1.heap[k]? = w.heap[k]?) : d.R e w1 base ok v xs :=
  R_mono (R_move (R_bound h) (fun k hk => hm k hk.1 hk.2.2.1)) (fun _ hk => hk.1)
theorem R_below (h : d.R e w base ok v xs) (hb : Below w.heap.size w w1) : d.R e w1 base ok v xs := R_step h (fun k _ hk => hb.block k hk)
theorem R_reads (h : d.R e w base ok v xs) : ∃ A c, v = .slice A xs.length c ∧ xs.length ≤ c ∧ d.C w A xs.length xs := by
  obtain ⟨A, c, he, hl, hr⟩ := OwnRow.reads h.2
  exact ⟨A, c, he, hl, hr.imp_ (Below.refl _ _) (fun _ _ hp => d.K_of_M hp)⟩
end

def scalar {α : Type} (enc : α → Value) (h1 : ∀ x, (enc x).oneCell' = true) : Kd α where
  sz := 1
  E := []
  K := fun _ x cs => cs = [enc x]
  M := fun _ _ _ x cs => cs = [enc x]
  K_len := fun h => by rw [h]; rfl
  K_one := fun h u hu => by
    rw [h] at hu
    rw [List.mem_singleton.1 hu]
    exact h1 _
  K_below := fun _ h => h
  K_of_M := fun h => h
  M_mono := fun _ h => h
  M_bound := fun h => h
  M_move := fun _ h => h
  M_lower := fun _ h => h
def int (k : IntKind) : Kd Int := scalar (Value.int k) (fun _ => rfl)
def bool : Kd Bool := scalar Value.bool (fun _ => rfl)
def string : Kd ByteArray := scalar Value.string (fun _ => rfl)
def slice {α : Type} (e : Nat) (d : Kd α) : Kd (List α) where
  sz := 1
  E := e :: d.E
  K := fun w xs cs => ∃ A c, cs = [.slice A xs.length c] ∧ xs.length ≤ c ∧ d.C w A xs.length xs
  M := fun w base ok xs cs => ∃ v, cs = [v] ∧ d.R e w base ok v xs
  K_len := by
    rintro w x cs ⟨A, c, rfl, _⟩
    rfl
  K_one := by
    rintro w x cs ⟨A, c, rfl, _⟩ u hu
    rw [List.mem_singleton.1 hu]
    rfl
  K_below := by
    rintro w w1 x cs hb ⟨A, c, rfl, hl, hr⟩
    exact ⟨A, c, rfl, hl, C_below hr hb⟩
  K_of_M := by
    rintro w base ok x cs ⟨v, rfl, h⟩
    obtain ⟨A, c, rfl, hl, hr⟩ := R_reads h
    exact ⟨A, c, rfl, hl, hr⟩
  M_mono := by
    rintro w base ok ok' x cs hok ⟨v, rfl, h⟩
    exact ⟨v, rfl, R_mono h hok⟩
  M_bound := by
    rintro w base ok x cs ⟨v, rfl, h⟩
    exact ⟨v, rfl, R_bound h⟩
  M_move := by
    rintro w w1 base ok x cs hm ⟨v, rfl, h⟩
    exact ⟨v, rfl, R_move h hm⟩
  M_lower := by
    rintro w base base' ok x cs hb ⟨v, rfl, h⟩
    exact ⟨v, rfl, R_lower h hb⟩
def pair {α β : Type} (a : Kd α) (b : Kd β) : Kd (α × β) where
  sz := a.sz + b.sz
  E := a.E ++ b.E
  K := fun w x cs => ∃ c0 c1, cs = c0 ++ c1 ∧ a.K w x.1 c0 ∧ b.K w x.2 c1
  M := fun w base ok x cs => ∃ c0 c1, cs = c0 ++ c1 ∧ a.M w base ok x.1 c0 ∧ b.M w base ok x.2 c1
  K_len := by
    rintro w x cs ⟨c0, c1, rfl, h0, h1⟩
    rw [List.length_append, a.K_len h0, b.K_len h1]
  K_one := by
    rintro w x cs ⟨c0, c1, rfl, h0, h1⟩ u hu
    rcases List.mem_append.1 hu with hu | hu
    · exact a.K_one h0 u hu
    · exact b.K_one h1 u hu
  K_below := by
    rintro w w1 x cs hb ⟨c0, c1, rfl, h0, h1⟩
    exact ⟨c0, c1, rfl, a.K_below hb h0, b.K_below hb h1⟩
  K_of_M := by
    rintro w base ok x cs ⟨c0, c1, rfl, h0, h1⟩
    exact ⟨c0, c1, rfl, a.K_of_M h0, b.K_of_M h1⟩
  M_mono := by
    rintro w base ok ok' x cs hok ⟨c0, c1, rfl, h0, h1⟩
    exact ⟨c0, c1, rfl, a.M_mono hok h0, b.M_mono hok h1⟩
  M_bound := by
    rintro w base ok x cs ⟨c0, c1, rfl, h0, h1⟩
    refine ⟨c0, c1, rfl, a.M_mono ?_ (a.M_bound h0), b.M_mono ?_ (b.M_bound h1)⟩
    · rintro k ⟨h2, h3, h4, q, hq, hc⟩
      exact ⟨h2, h3, h4, q, List.mem_append_left _ hq, hc⟩
    · rintro k ⟨h2, h3, h4, q, hq, hc⟩
      exact ⟨h2, h3, h4, q, List.mem_append_right _ hq, hc⟩
  M_move := by
    rintro w w1 base ok x cs hm ⟨c0, c1, rfl, h0, h1⟩
    exact ⟨c0, c1, rfl, a.M_move hm h0, b.M_move hm h1⟩
  M_lower := by
    rintro w base base' ok x cs hb ⟨c0, c1, rfl, h0, h1⟩
    exact ⟨c0, c1, rfl, a.M_lower hb h0, b.M_lower hb h1⟩
def iso {α β : Type} (d : Kd α) (f : β → α) : Kd β where
  sz := d.sz
  E := d.E
  K := fun w x cs => d.K w (f x) cs
  M := fun w base ok x cs => d.M w base ok (f x) cs
  K_len := d.K_len
  K_one := d.K_one
  K_below := d.K_below
  K_of_M := d.K_of_M
  M_mono := d.M_mono
  M_bound := d.M_bound
  M_move := d.M_move
  M_lower := d.M_lower
def bot {α : Type} (sz : Nat) (E : List Nat) : Kd α where
  sz := sz
  E := E
  K := fun _ _ _ => False
  M := fun _ _ _ _ _ => False
  K_len := fun h => h.elim
  K_one := fun h => h.elim
  K_below := fun _ h => h
  K_of_M := fun h => h
  M_mono := fun _ h => h
  M_bound := fun h => h
  M_move := fun _ h => h
  M_lower := fun _ h => h
def upto {α : Type} (F : Kd α → Kd α) (sz : Nat) (E : List Nat) : Nat → Kd α
  | 0 => bot sz E
  | n + 1 => F (upto F sz E n)
theorem C_get {α : Type} {d : Kd α} {w : World} {A : Option Addr} {n : Nat} {xs : List α} (h : d.C w A n xs) (z : α) (i : Int) (h0 : 0 ≤ i) (h1 : i < n) :
    ∃ ad c, A = some ad ∧ c.length = d.sz ∧ d.K w (xs.getD i.toNat z) c ∧ ∀ j u, c[j]? = some u → w.cell? (ad.add (i.toNat * d.sz + j)) = some u := ReadsRow.get_ h z i h0 h1
section
variable {P : Program} {ops : Array Oper} {rest : List Oper} {o : Oper} {a : Act} {Q : Exit → Act → World → Prop} {α : Type}
end
section
variable {P : Program} {ops : Array Oper} {o : Oper} {a : Act} {Q : Exit → Act → World → Prop} {Kc : Act → World → Prop} {α : Type}
end
end Kd
namespace Kd
/-- F says the more, the more its argument says. -/
structure Mono {α β : Type} (F : Kd α → Kd β) : Prop where
  sz : ∀ d d' : Kd α, d.sz = d'.sz → (F d).sz = (F d').sz
  K : ∀ d d' : Kd α, d.sz = d'.sz → (∀ w x cs, d.K w x cs → d'.K w x cs) → ∀ w x cs, (F d).K w x cs → (F d').K w x cs
  M : ∀ d d' : Kd α, d.sz = d'.sz → (∀ w base ok x cs, d.M w base ok x cs → d'.M w base ok x cs) → ∀ w base ok x cs, (F d).M w base ok x cs → (F d').M w base ok x cs
section
variable {α : Type} {F : Kd α → Kd α} {sz : Nat} {E : List Nat} {hs : ∀ n, (upto F sz E n).sz = sz} {hE : ∀ n q, q ∈ (upto F sz E n).E → q ∈ E}
end
end Kd
namespace Kd
end Kd
namespace Kd
section
variable {α β : Type} {d : Kd α} {d' : Kd β} {e e' : Nat} {w w1 W : World} {base b b' : Nat} {ok ok' okv oku : Nat → Prop} {v u : Value} {xs : List α} {ys : List β}
end
section
variable {w W : World} {A : Option Addr} {n : Nat}
variable {α : Type} {enc : α → Value} {h1 : ∀ x, (enc x).oneCell' = true} {e base g cap : Nat} {ok : Nat → Prop} {xs : List α}
end

section
variable {P : Program} {ops : Array Oper} {rest : List Oper} {o : Oper} {a : Act} {Q : Exit → Act → World → Prop}
variable {α : Type}
end
end Kd
theorem own_take {w : World} {base n m c size : Nat} {e : TypeId} {A : Option Addr} {xs : List Value} (h : w.ownsRow base e size (.slice A n c) n xs) (hm : m ≤ n) : w.ownsRow base e size (.slice A m c) m (xs.take (m * size)) := by
  obtain ⟨h1, h2⟩ := h
  refine ⟨by rw [List.length_take, h1]; exact Nat.min_eq_left (Nat.mul_le_mul_right _ hm), ?_⟩
  rcases h2 with ⟨he, h0⟩ | ⟨g, cap, cur, he, hb, hh, hnc, hcm, hcs, ht⟩
  · injection he with ha _ hc
    subst ha; subst hc
    exact .inl ⟨by rw [show m = 0 by omega], by omega⟩
  · injection he with ha _ hc
    subst ha; subst hc
    refine .inr ⟨g, c, cur, rfl, hb, hh, by omega, hcm, hcs, ?_⟩
    rw [← ht, List.take_take, Nat.min_eq_left (Nat.mul_le_mul_right _ hm)]
section
variable {P : Program}
end
def QRow (w : World) (base : Nat) (e : TypeId) (size : Nat) (v : Value) (n : Nat) (xs : List Value) : Prop :=
  xs.length = n * size ∧
  ((n = 0 ∧ ∃ A, v = .slice A 0 0 ∧ ∀ a, A = some a → base ≤ a.block ∧ ∃ cur, w.heap[a.block]? = some (.cells cur e (0, 0))) ∨
   ∃ g off cap cur, v = .slice (some ⟨g, off * size, none⟩) n cap ∧ base ≤ g ∧ w.heap[g]? = some (.cells cur e (0, 0)) ∧ n ≤ cap ∧ off + cap ≤ maxLen ∧ cur.size = (off + cap) * size ∧ (cur.toList.drop (off * size)).take (n * size) = xs)
section
variable {w w1 : World} {base n size : Nat} {e : TypeId} {v : Value} {xs : List Value}
end
section
variable {P : Program}
end
namespace Kd
theorem reps_take {α : Type} {R : α → List Value → Prop} {size m : Nat} {ps : List α} {cs : List Value} (h : Reps R size ps cs) (hm : m ≤ ps.length) : Reps R size (ps.take m) (cs.take (m * size)) := by
  refine ⟨by rw [List.length_take, List.length_take, h.1, Nat.min_eq_left hm, Nat.min_eq_left (Nat.mul_le_mul_right _ hm)], fun j p hj => ?_⟩
  rw [List.getElem?_take] at hj
  split at hj
  · rename_i hjm
    have := h.2 j p hj
    have hle : j * size + size ≤ m * size := by rw [← Nat.succ_mul]; exact Nat.mul_le_mul_right _ hjm
    rw [List.drop_take, List.take_take, Nat.min_eq_left (by omega)]
    exact this
  · cases hj
theorem R_take {α : Type} {d : Kd α} {e m n c : Nat} {w : World} {base : Nat} {ok : Nat → Prop} {A : Option Addr} {xs : List α} (h : d.R e w base ok (.slice A n c) xs) (hm : m ≤ xs.length) : d.R e w base ok (.slice A m c) (xs.take m) := by
  obtain ⟨h0, inner, ho, hr⟩ := h
  have hn : n = xs.length := by
    obtain ⟨A', c', he⟩ := own_slice ho
    injection he
  subst hn
  have hb : ∀ x y : Nat, (Value.slice A x c).ownBlock = (Value.slice A y c).ownBlock := by
    intro x y
    cases A <;> rfl
  refine ⟨fun k hk => h0 k (by rw [hb _ m]; exact hk), inner.take (m * d.sz), ?_, ?_⟩
  · rw [List.length_take, Nat.min_eq_left hm]
    exact own_take ho hm
  · rw [hb m xs.length]
    exact reps_take hr hm
def Q {α : Type} (d : Kd α) (e : Nat) (w : World) (base : Nat) (ok : Nat → Prop) (v : Value) (xs : List α) : Prop :=
  (∀ k, v.ownBlock = some k → ok k) ∧ ∃ inner, QRow w base e d.sz v xs.length inner ∧ Reps (d.M w base (fun k => ok k ∧ some k ≠ v.ownBlock)) d.sz xs inner
section
variable {α : Type} {d : Kd α} {e : Nat} {w w1 W : World} {base : Nat} {ok ok' : Nat → Prop} {v : Value} {xs : List α}
end
section
variable {P : Program} {ops : Array Oper} {rest : List Oper} {o : Oper} {a : Act} {Q' : Exit → Act → World → Prop} {Kc : Act → World → Prop} {α : Type}
end
end Kd
namespace Kd
section
variable {α : Type} {d : Kd α} {e e' : Nat} {w w1 W : World} {base : Nat} {ok : Nat → Prop} {u v : Value} {xs : List α}
end
end Kd
namespace Kd
section
variable {α : Type} {d : Kd α} {e base g n cap : Nat} {ok okp : Nat → Prop} {W : World} {xs : List α}
end
end Kd
namespace Kd
section
variable {α : Type} {F : Kd α → Kd α} {sz : Nat} {E : List Nat} {hs : ∀ n, (upto F sz E n).sz = sz} {hE : ∀ n q, q ∈ (upto F sz E n).E → q ∈ E}
end
end Kd
namespace Kd
section
variable {P : Program} {ops : Array Oper} {rest : List Oper} {o : Oper} {a : Act} {Q : Exit → Act → World → Prop} {α : Type}
end
end Kd
namespace Kd
section
variable {P : Program} {ops : Array Oper} {rest : List Oper} {o : Oper} {a : Act} {Q : Exit → Act → World → Prop} {α : Type}
end
end Kd
namespace Kd
section
variable {α : Type} {k : Kd α} {w : World} {A : Option Addr} {xs : List α} {m c : Nat}
end
end Kd
section
variable {P : Program}
end
theorem below_step {w W w2 : World} (h : Below w.heap.size w W) (k : Below W.heap.size W w2) : Below w.heap.size w w2 := below_then h h.size k
theorem ReadsInt.nil (W : World) (k : IntKind) : ReadsInt W k none ([] : List Int).length [] := ⟨rfl, by simp, fun h => absurd h (Nat.lt_irrefl 0)⟩
theorem ReadsInt.drewN {W : World} {k : IntKind} {A : Option Addr} {n : Nat} {xs : List Int} (h : ReadsInt W k A n xs) (m : Nat) : ReadsInt (W.drewN m) k A n xs := h
theorem keep_cell {w W : World} {g : Nat} (h : KeepBut w W g none) {a : Addr} {v : Value} (hc : w.cell? a = some v) (hne : a.block ≠ g) : W.cell? a = some v := by
  have := h.2 a.block (World.block_lt_of_cell? w a hc) hne (by simp)
  simpa [World.cell?, this] using hc
theorem add_block (a : Addr) (i : Nat) : (a.add i).block = a.block := by unfold Addr.add; split <;> rfl
theorem ReadsOf.nil {α : Type} (enc : α → Value) (d : α) (W : World) : ReadsOf enc d W none ([] : List α).length [] := ⟨rfl, by simp, fun h => absurd h (Nat.lt_irrefl 0)⟩
theorem ReadsOf.drewN {α : Type} {enc : α → Value} {d : α} {W : World} {A : Option Addr} {n : Nat} {xs : List α} (h : ReadsOf enc d W A n xs) (m : Nat) : ReadsOf enc d (W.drewN m) A n xs := h
theorem ReadsInt.keep {w W : World} {k : IntKind} {A : Option Addr} {n g : Nat} {xs : List Int} (h : ReadsInt w k A n xs) (hk : KeepBut w W g none) (hf : ∀ ad, A = some ad → 0 < n → ad.block ≠ g) : ReadsInt W k A n xs :=
  ⟨h.1, h.2.1, fun hn => by
    obtain ⟨ad, e, hc⟩ := h.2.2 hn
    exact ⟨ad, e, fun j hj => keep_cell hk (hc j hj) (by rw [add_block]; exact hf ad e hn)⟩⟩
theorem ReadsOf.keep {α : Type} {enc : α → Value} {d : α} {w W : World} {A : Option Addr} {n g : Nat} {xs : List α} (h : ReadsOf enc d w A n xs) (hk : KeepBut w W g none) (hf : ∀ ad, A = some ad → 0 < n → ad.block ≠ g) : ReadsOf enc d W A n xs :=
  ⟨h.1, h.2.1, fun hn => by
    obtain ⟨ad, e, hc⟩ := h.2.2 hn
    exact ⟨ad, e, fun j hj => keep_cell hk (hc j hj) (by rw [add_block]; exact hf ad e hn)⟩⟩
theorem below_drew1 {base : Nat} {w W : World} (h : Below base w W) : Below base w W.drew := h.drew
namespace Kd
section
variable {α β : Type} {d : Kd α} {d' : Kd β} {e e' base base' n : Nat} {ok ok' : Nat → Prop} {w W w1 W1 : World} {v u : Value} {xs : List α} {ys : List β} {A : Option Addr} {c : Nat}
end
section
variable {α : Type} {enc : α → Value} {h1 : ∀ x, (enc x).oneCell' = true} {w W : World} {A : Option Addr} {n g : Nat} {xs : List α}
end
end Kd
namespace Kd
section
variable {α : Type} {d : Kd α} {e base g : Nat} {ok : Nat → Prop} {w w1 : World} {v : Value} {xs : List α} {o : Obj}
end
end Kd
section
variable {P : Program} {ops : Array Oper} {rest : List Oper} {o : Oper} {a : Act} {Q : Exit → Act → World → Prop}
end
namespace Kd
section
variable {α : Type} {enc : α → Value} {h1 : ∀ x, (enc x).oneCell' = true} {e base g n cap : Nat} {ok : Nat → Prop} {W : World} {xs : List α}
end
end Kd
section
variable {P : Program} {ops : Array Oper} {rest : List Oper} {o : Oper} {a : Act} {Q : Exit → Act → World → Prop}
end
namespace Kd
section
variable {α : Type} {enc : α → Value} {h1 : ∀ x, (enc x).oneCell' = true} {e base g n cap : Nat} {ok : Nat → Prop} {W : World} {xs : List α}
end
end Kd
section
variable {P : Program} {ops : Array Oper} {rest : List Oper} {o : Oper} {a : Act} {Q : Exit → Act → World → Prop} {W : World}
end
section
variable {P : Program} {ops : Array Oper} {o : Oper} {a : Act} {Q : Exit → Act → World → Prop} {Kc : Act → World → Prop}
namespace Kd
variable {α : Type}
end Kd
end
inductive Vals (P : Program) (tmps : Array Value) (w : World) : List ResultVar → List Value → Prop where
  | nil : Vals P tmps w [] []
  | tmp {u : Tmp} {rs : List ResultVar} {vs : List Value} (h : Vals P tmps w rs vs) : Vals P tmps w (.tmp u :: rs) (tmps.getD u undef :: vs)
  | cell {p : Tmp} {ty : TypeId} {rs : List ResultVar} {vs : List Value} (g : Nat) (t : TypeId) (cs : Array Value) (fr : Nat × Nat) (d : TypeDesc)
      (hp : tmps.getD p undef = .pointer (some ⟨g, 0, none⟩)) (hg : w.heap[g]? = some (.cells cs t fr))
      (hu : P.underlying ty = some d) (hd : (match d with | .struct _ | .array _ _ => true | _ => false) = true) (hi : (P.info? ty).map (·.size) = some cs.size)
      (h : Vals P tmps w rs vs) : Vals P tmps w (.cell p ty :: rs) (.agg cs :: vs)
section
variable {P : Program} {tmps : Array Value} {w : World}
end
namespace Kd
section
variable {P : Program} {α : Type}
end
section
variable {P : Program} {ops : Array Oper} {rest : List Oper} {o : Oper} {a : Act} {Q : Exit → Act → World → Prop} {Kc : Act → World → Prop} {α : Type}
end
end Kd

end Go.Proofs.YtjalkjeldlchoaaW.PrintWords
end
section
set_option linter.unusedSectionVars false
set_option linter.unusedSimpArgs false
set_option linter.unusedVariables false
-- PRINTED BY print.sh 35421559b90ae4d0a3588c463048766b98c2df88dd9212a6774a882060cdf62d: not written by this session
namespace Go.Proofs.YtjalkjeldlchoaaW.PrintLast

section
variable {P : Program} {ops : Array Oper} {Q : Exit → Act → World → Prop} {md : Region.Mode} {S : World → Prop} {ds : List Nat}

def ListedClosed (md : Region.Mode) (ops : Array Oper) (listed : Array Bool) : Prop :=
  ∀ j oj, ops[j]? = some oj → listed.getD j false = true → ∀ e ∈ oj.after, Region.binds md e = true → listed.getD e.on false = true

theorem ListedClosed.set {listed : Array Bool} {i : Nat} (h : ListedClosed md ops listed) (hi : i ∈ Region.ready md ops listed) : ListedClosed md ops (listed.setIfInBounds i true) := by
  obtain ⟨_, oi, hoi, hall⟩ := mem_ready.1 hi
  intro j oj hj hl e he hb
  by_cases hij : i = j
  · subst hij
    have : oj = oi := Option.some.inj (hj.symm.trans hoi)
    subst this
    exact getD_set_true (hall e he hb)
  · rw [getD_set_ne false hij] at hl
    exact getD_set_true (h j oj hj hl e he hb)

def wpAnyLast (P : Program) (md : Region.Mode) (ops : Array Oper) (Q : Exit → Act → World → Prop) (S : World → Prop) (ds : List Nat) : Nat → Array Bool → Act → World → Prop
  | 0, listed, a, w => Region.ready md ops listed = [] ∧ Q .normal a w
  | fuel + 1, listed, a, w =>
    (Region.ready md ops listed = [] → Q .normal a w) ∧
    ∀ i ∈ Region.ready md ops listed, wpOp P ops Q i (fun a' w' => (i ∉ ds → S w → S w') ∧ wpAnyLast P md ops Q S ds fuel (listed.setIfInBounds i true) a' w') a w

end

section
variable {P : Program} {ops : Array Oper} {Q : Exit → Act → World → Prop} {md : Region.Mode} {S : World → Prop} {ds : List Nat}

def AllReadyL (P : Program) (md : Region.Mode) (ops : Array Oper) (Q : Exit → Act → World → Prop) (S : World → Prop) (ds : List Nat) (fuel : Nat) (listed : Array Bool) (a : Act) (w : World) (rs : List Nat) : Prop :=
  ∀ i ∈ rs, wpOp P ops Q i (fun a' w' => (i ∉ ds → S w → S w') ∧ wpAnyLast P md ops Q S ds fuel (listed.setIfInBounds i true) a' w') a w
theorem AllReadyL.nil {fuel : Nat} {listed : Array Bool} {a : Act} {w : World} : AllReadyL P md ops Q S ds fuel listed a w [] := fun _ h => by cases h
theorem AllReadyL.cons {fuel : Nat} {listed : Array Bool} {a : Act} {w : World} {i : Nat} {o : Oper} {rs : List Nat} (ho : ops[i]? = some o) (hd : i ∉ ds)
    (h : ∀ K' : Act → World → Prop, Shut (∀ a w, S w → (S w → wpAnyLast P md ops Q S ds fuel (listed.setIfInBounds i true) a w) → K' a w) → if Region.wanted o (yielded ops a.tmps) = true then Oper.wp P o a w K' Q else K' (a.put o.dst undef) w)
    (hs : AllReadyL P md ops Q S ds fuel listed a w rs) : AllReadyL P md ops Q S ds fuel listed a w (i :: rs) := fun j hj => by
  rcases List.mem_cons.1 hj with rfl | hj
  · exact wpOp_step ho (fun K' hK => h K' (fun a w hS hW => hK a w ⟨fun _ _ => hS, hW hS⟩))
  · exact hs j hj
end
end Go.Proofs.YtjalkjeldlchoaaW.PrintLast
end
section
set_option linter.unusedSectionVars false
set_option linter.unusedSimpArgs false
set_option linter.unusedVariables false
-- PRINTED BY print.sh 35421559b90ae4d0a3588c463048766b98c2df88dd9212a6774a882060cdf62d: not written by this session
namespace Go.Proofs.YtjalkjeldlchoaaW.PrintWords
open Go.RowKit
namespace Kd
section
variable {α : Type} {d : Kd α} {e base g o n cap : Nat} {ok okp : Nat → Prop} {w W : World} {v : Value} {xs : List α}
end
section
variable {α : Type} {enc : α → Value} {h1 : ∀ x, (enc x).oneCell' = true} {e base g o n cap : Nat} {ok : Nat → Prop} {W : World} {xs : List α}
end
end Kd
end Go.Proofs.YtjalkjeldlchoaaW.PrintWords
end
section
set_option linter.unusedSectionVars false
set_option linter.unusedSimpArgs false
set_option linter.unusedVariables false
-- PRINTED BY print.sh 35421559b90ae4d0a3588c463048766b98c2df88dd9212a6774a882060cdf62d: not written by this session
namespace Go.Proofs.YtjalkjeldlchoaaW.PrintWords
open Go.RowKit
namespace Kd
def tag {α : Type} (f : Nat → Nat) (d : Kd α) : Kd (α × Nat) where
  sz := d.sz
  E := d.E
  K := fun w x cs => d.K w x.1 cs
  M := fun w base ok x cs => d.M w base (fun k => ok k ∧ f k = x.2) x.1 cs
  K_len := fun h => d.K_len h
  K_one := fun h => d.K_one h
  K_below := fun hb h => d.K_below hb h
  K_of_M := fun h => d.K_of_M h
  M_mono := fun hok h => d.M_mono (fun k hk => ⟨hok k hk.1, hk.2⟩) h
  M_bound := fun h => d.M_mono (fun _ hk => ⟨⟨hk.1.1, hk.2⟩, hk.1.2⟩) (d.M_bound h)
  M_move := fun hm h => d.M_move (fun k hk => hm k hk.1) h
  M_lower := fun hb h => d.M_lower hb h
def raw (sz : Nat) : Kd (List Value) where
  sz := sz
  E := []
  K := fun _ x cs => cs = x ∧ cs.length = sz ∧ ∀ u ∈ cs, u.oneCell' = true
  M := fun _ _ _ x cs => cs = x ∧ cs.length = sz ∧ ∀ u ∈ cs, u.oneCell' = true
  K_len := fun h => h.2.1
  K_one := fun h => h.2.2
  K_below := fun _ h => h
  K_of_M := fun h => h
  M_mono := fun _ h => h
  M_bound := fun h => h
  M_move := fun _ h => h
  M_lower := fun _ h => h
def S {α : Type} (d : Kd α) (e : Nat) (w : World) (base : Nat) (ok : Nat → Prop) (v : Value) (xs : List α) : Prop := ∃ f, (tag f d).R e w base ok v xs.zipIdx
section
variable {α β : Type} {d : Kd α} {d' : Kd β} {e e' : Nat} {w w1 W : World} {base b : Nat} {ok ok' okv oku : Nat → Prop} {u v : Value} {xs : List α} {ys : List β}
end
section
variable {α β : Type} {d : Kd α} {d' : Kd β} {e e' g : Nat} {w w1 W : World} {base b : Nat} {ok ok' okv oku : Nat → Prop} {u v : Value} {xs : List α} {ys : List β}
end
section
variable {P : Program} {ops : Array Oper} {rest : List Oper} {o : Oper} {a : Act} {Q : Exit → Act → World → Prop} {Kc : Act → World → Prop} {α : Type}
end
def gap {α : Type} (f : Nat → Nat) (d : Kd α) (i : Nat) (c : List Value) : Kd (α × Nat) where
  sz := d.sz
  E := d.E
  K := fun w x cs => (x.2 = i → cs = c ∧ cs.length = d.sz ∧ ∀ u ∈ cs, u.oneCell' = true) ∧ (x.2 ≠ i → d.K w x.1 cs)
  M := fun w base ok x cs => (x.2 = i → cs = c ∧ cs.length = d.sz ∧ ∀ u ∈ cs, u.oneCell' = true) ∧ (x.2 ≠ i → d.M w base (fun k => ok k ∧ f k = x.2) x.1 cs)
  K_len := fun {w x cs} h => by
    by_cases hx : x.2 = i
    · exact (h.1 hx).2.1
    · exact d.K_len (h.2 hx)
  K_one := fun {w x cs} h => by
    by_cases hx : x.2 = i
    · exact (h.1 hx).2.2
    · exact d.K_one (h.2 hx)
  K_below := fun hb h => ⟨h.1, fun hx => d.K_below hb (h.2 hx)⟩
  K_of_M := fun h => ⟨h.1, fun hx => d.K_of_M (h.2 hx)⟩
  M_mono := fun hok h => ⟨h.1, fun hx => d.M_mono (fun k hk => ⟨hok k hk.1, hk.2⟩) (h.2 hx)⟩
  M_bound := fun h => ⟨h.1, fun hx => d.M_mono (fun _ hk => ⟨⟨hk.1.1, hk.2⟩, hk.1.2⟩) (d.M_bound (h.2 hx))⟩
  M_move := fun hm h => ⟨h.1, fun hx => d.M_move (fun k hk => hm k hk.1) (h.2 hx)⟩
  M_lower := fun hb h => ⟨h.1, fun hx => d.M_lower hb (h.2 hx)⟩
def H {α : Type} (d : Kd α) (e : Nat) (w : World) (base : Nat) (ok : Nat → Prop) (v : Value) (xs : List α) (i : Int) (oki : Nat → Prop) (c : List Value) : Prop :=
  (∀ k, oki k → ok k) ∧ ∃ f, (gap f d i.toNat c).R e w base (fun k => ok k ∧ ¬ oki k) v xs.zipIdx
section
variable {α β : Type} {d : Kd α} {e e' g n cap : Nat} {w w1 W : World} {base : Nat} {ok ok' oki okp : Nat → Prop} {u v : Value} {xs : List α} {i : Int} {c : List Value}
end
section
variable {P : Program} {ops : Array Oper} {rest : List Oper} {o : Oper} {a : Act} {Q : Exit → Act → World → Prop} {α : Type}
end
end Kd
end Go.Proofs.YtjalkjeldlchoaaW.PrintWords
end
section
set_option linter.unusedSectionVars false
set_option linter.unusedSimpArgs false
set_option linter.unusedVariables false
-- PRINTED BY print.sh 35421559b90ae4d0a3588c463048766b98c2df88dd9212a6774a882060cdf62d: not written by this session
namespace Go.Proofs.YtjalkjeldlchoaaW.PrintWords
open Go.RowKit
namespace Kd
section
variable {α : Type} {n : Nat} {d : Kd α} {hs : 0 < d.sz} {w : World} {base : Nat} {ok : Nat → Prop} {xs : List α} {cs : List Value}
end
section
variable {α : Type} {n : Nat} {enc : α → Value} {h1 : ∀ x, (enc x).oneCell' = true} {hs : 0 < (scalar enc h1).sz} {w : World} {base : Nat} {ok : Nat → Prop} {xs : List α} {cs : List Value}
end
end Kd
end Go.Proofs.YtjalkjeldlchoaaW.PrintWords
end
section
set_option linter.unusedSectionVars false
set_option linter.unusedSimpArgs false
set_option linter.unusedVariables false
-- PRINTED BY print.sh 35421559b90ae4d0a3588c463048766b98c2df88dd9212a6774a882060cdf62d: not written by this session
namespace Go.Proofs.YtjalkjeldlchoaaW.PrintWords
open Go.RowKit
section
variable {P : Program}
end
namespace Kd
section
variable {P : Program} {ops : Array Oper} {rest : List Oper} {o : Oper} {a : Act} {Q : Exit → Act → World → Prop} {Kc : Act → World → Prop} {α : Type}
end
section
variable {α : Type} {d : Kd α} {e : Nat} {w : World} {base : Nat} {ok : Nat → Prop} {v : Value} {xs : List α}
end
section
variable {P : Program} {ops : Array Oper} {rest : List Oper} {o : Oper} {a : Act} {Q : Exit → Act → World → Prop} {Kc : Act → World → Prop} {α : Type}
end
end Kd
end Go.Proofs.YtjalkjeldlchoaaW.PrintWords
end
section
set_option linter.unusedSectionVars false
set_option linter.unusedSimpArgs false
set_option linter.unusedVariables false
-- PRINTED BY print.sh 35421559b90ae4d0a3588c463048766b98c2df88dd9212a6774a882060cdf62d: not written by this session
namespace Go.Proofs.YtjalkjeldlchoaaW.PrintWords
open Go.RowKit
namespace Kd
/-- What a kind reads lies in the blocks: nothing else of the world is looked at. -/
structure Heap {α : Type} (d : Kd α) : Prop where
  K : ∀ {w w1 : World} {x : α} {cs : List Value}, (∀ k, k < w.heap.size → w1.heap[k]? = w.heap[k]?) → d.K w x cs → d.K w1 x cs
theorem cell_heap {w w1 : World} (hb : ∀ k, k < w.heap.size → w1.heap[k]? = w.heap[k]?) {a : Addr} {v : Value} (h : w.cell? a = some v) : w1.cell? a = some v := by
  have := hb a.block (World.block_lt_of_cell? w a h)
  simpa [World.cell?, this] using h
theorem Heap.C {α : Type} {d : Kd α} (hd : Heap d) {w w1 : World} {A : Option Addr} {n : Nat} {xs : List α} (hb : ∀ k, k < w.heap.size → w1.heap[k]? = w.heap[k]?) (h : d.C w A n xs) : d.C w1 A n xs :=
  ⟨h.1, h.2.1, fun hn => by
    obtain ⟨ad, e, hc⟩ := h.2.2 hn
    refine ⟨ad, e, fun j p hj => ?_⟩
    obtain ⟨c, hs, hr, hcell⟩ := hc j p hj
    exact ⟨c, hs, hd.K hb hr, fun i u hu => cell_heap hb (hcell i u hu)⟩⟩
section
variable {α : Type} {d : Kd α} {e base g n c : Nat} {ok : Nat → Prop} {w w0 W : World} {A : Option Addr} {xs : List α}
end
end Kd
end Go.Proofs.YtjalkjeldlchoaaW.PrintWords
end
section
set_option linter.unusedSectionVars false
set_option linter.unusedSimpArgs false
set_option linter.unusedVariables false
-- PRINTED BY print.sh 35421559b90ae4d0a3588c463048766b98c2df88dd9212a6774a882060cdf62d: not written by this session
namespace Go.Proofs.YtjalkjeldlchoaaW.PrintWords
open Go.RowKit
def Kept (w W : World) (S : Nat → Prop) : Prop := w.heap.size ≤ W.heap.size ∧ ∀ i, i < w.heap.size → ¬ S i → W.heap[i]? = w.heap[i]?
section
variable {w W W2 : World} {S S2 S' : Nat → Prop}
theorem Kept.refl (w : World) (S : Nat → Prop) : Kept w w S := ⟨Nat.le_refl _, fun _ _ _ => rfl⟩
theorem Kept.of_below (h : Below w.heap.size w W) (S : Nat → Prop) : Kept w W S := ⟨h.size, fun i hi _ => h.block i hi⟩
theorem Kept.mono (h : Kept w W S) (hs : ∀ k, S k → S' k) : Kept w W S' := ⟨h.1, fun i hi hn => h.2 i hi (fun hk => hn (hs i hk))⟩
theorem Kept.then_ (h : Kept w W S) (k : Kept W W2 S2) (hs : ∀ k, S2 k → S k ∨ w.heap.size ≤ k) : Kept w W2 S :=
  ⟨Nat.le_trans h.1 k.1, fun i hi hn => (k.2 i (Nat.lt_of_lt_of_le hi h.1) (fun h2 => (hs i h2).elim hn (fun h3 => by omega))).trans (h.2 i hi hn)⟩
theorem Kept.below (h : Kept w W S) (hb : Below W.heap.size W W2) : Kept w W2 S := h.then_ (Kept.of_below hb (fun _ => False)) (fun _ hk => hk.elim)
theorem Kept.alloc (h : Kept w W S) (o : Obj) : Kept w (W.alloc o) S := h.below (below_alloc (Below.refl _ _) o)
theorem Kept.drew (h : Kept w W S) : Kept w W.drew S := h
theorem Kept.drewN (h : Kept w W S) (m : Nat) : Kept w (W.drewN m) S := h
theorem Kept.setCell (h : Kept w W S) {p : Addr} (hp : S p.block ∨ w.heap.size ≤ p.block) (u : Value) : Kept w (W.setCell p u) S :=
  h.then_ (S2 := fun k => k = p.block) ⟨by simp [World.setCell], fun i _ hn => Below.heap_setCell W p u i hn⟩ (fun k hk => by rw [hk]; exact hp)
theorem Kept.keep {g : Nat} (h : KeepBut w W g none) (k : Kept W W2 S2) (hs : ∀ k, S2 k → w.heap.size ≤ k) : KeepBut w W2 g none :=
  ⟨Nat.le_trans h.1 k.1, fun i hi hg hr => (k.2 i (Nat.lt_of_lt_of_le hi h.1) (fun h2 => by have := hs i h2; omega)).trans (h.2 i hi hg hr)⟩
theorem cell_kept {a : Addr} {v : Value} (hc : W.cell? a = some v) (hk : Kept W W2 S) (hne : ¬ S a.block) : W2.cell? a = some v := by
  have := hk.2 a.block (World.block_lt_of_cell? W a hc) hne
  simpa [World.cell?, this] using hc
end
namespace Kd
section
variable {α : Type} {d : Kd α} {e base n c : Nat} {ok oki S S2 : Nat → Prop} {w w0 W W1 W2 : World} {v : Value} {A : Option Addr} {xs : List α} {i : Int} {cs : List Value}
end
end Kd
end Go.Proofs.YtjalkjeldlchoaaW.PrintWords
end
section
set_option linter.unusedSectionVars false
set_option linter.unusedSimpArgs false
set_option linter.unusedVariables false
-- PRINTED BY print.sh 35421559b90ae4d0a3588c463048766b98c2df88dd9212a6774a882060cdf62d: not written by this session
namespace Go.Proofs.YtjalkjeldlchoaaW.PrintWords
open Go.RowKit
def Foot (P : World → Prop) (W : World) (ok : Nat → Prop) : Prop := ∀ W' : World, (∀ k, ok k → k < W.heap.size → W'.heap[k]? = W.heap[k]?) → P W'
theorem heap_lt {W W1 : World} {k : Nat} (h : W1.heap[k]? = W.heap[k]?) (hlt : k < W.heap.size) : k < W1.heap.size := by
  rw [Array.getElem?_eq_getElem hlt] at h
  exact (Array.getElem?_eq_some_iff.1 h).1
namespace Foot
variable {P Q : World → Prop} {W W1 : World} {ok ok' : Nat → Prop}
theorem now (h : Foot P W ok) : P W := h W (fun _ _ _ => rfl)
theorem mono (h : Foot P W ok) (hok : ∀ k, ok k → ok' k) : Foot P W ok' := fun W' hW => h W' (fun k hk hlt => hW k (hok k hk) hlt)
theorem bound (h : Foot P W ok) : Foot P W (fun k => ok k ∧ k < W.heap.size) := fun W' hW => h W' (fun k hk hlt => hW k ⟨hk, hlt⟩ hlt)
theorem step (h : Foot P W ok) (hm : ∀ k, ok k → k < W.heap.size → W1.heap[k]? = W.heap[k]?) : Foot P W1 ok := fun W' hW => h W' (fun k hk hlt => (hW k hk (heap_lt (hm k hk hlt) hlt)).trans (hm k hk hlt))
theorem imp (h : Foot P W ok) (hi : ∀ W', P W' → Q W') : Foot Q W ok := fun W' hW => hi W' (h W' hW)
theorem old (h : Foot P W ok) (hb : Below W.heap.size W W1) : Foot P W1 (fun k => ok k ∧ k < W.heap.size) := (h.bound).step (fun k _ hlt => hb.block k hlt)
end Foot
namespace Kd
def F {α : Type} (d : Kd α) (W : World) (ok : Nat → Prop) (A : Option Addr) (n : Nat) (xs : List α) : Prop := Foot (fun W => d.C W A n xs) W ok
def FK {α : Type} (d : Kd α) (W : World) (ok : Nat → Prop) (x : α) (c : List Value) : Prop := Foot (fun W => d.K W x c) W ok
section
variable {α β : Type} {d : Kd α} {e base n n' cc g N : Nat} {ok ok' okp S : Nat → Prop} {w w0 w1 W W1 : World} {A A' : Option Addr} {u v v1 : Value} {xs : List α} {xs' : List β} {d' : Kd β} {x : α} {c : List Value}
end
end Kd
end Go.Proofs.YtjalkjeldlchoaaW.PrintWords
end
section
set_option linter.unusedSectionVars false
set_option linter.unusedSimpArgs false
set_option linter.unusedVariables false
-- PRINTED BY print.sh 35421559b90ae4d0a3588c463048766b98c2df88dd9212a6774a882060cdf62d: not written by this session
namespace Go.Proofs.YtjalkjeldlchoaaW.PrintWords
open Go.RowKit
namespace Kd
section
variable {α : Type} {d : Kd α} {e base n cc g : Nat} {ok ok' okp S : Nat → Prop} {w w1 W W1 : World} {A : Option Addr} {u v v1 : Value} {xs : List α} {x : α} {c : List Value}
def N {α : Type} (d : Kd α) (e : Nat) (w : World) (base : Nat) (ok : Nat → Prop) (v : Value) (xs : List α) : Prop :=
  (∀ k, v.ownBlock = some k → ok k) ∧ ∃ rows : List (List Value), rows.length = xs.length ∧ (raw d.sz).R e w base (fun k => some k = v.ownBlock) v rows ∧ ∀ (j : Nat) (x : α) (c : List Value), xs[j]? = some x → rows[j]? = some c → FK d w (fun k => ok k ∧ some k ≠ v.ownBlock) x c
end
end Kd
end Go.Proofs.YtjalkjeldlchoaaW.PrintWords
end
section
set_option linter.unusedSectionVars false
set_option linter.unusedSimpArgs false
set_option linter.unusedVariables false
-- PRINTED BY print.sh 35421559b90ae4d0a3588c463048766b98c2df88dd9212a6774a882060cdf62d: not written by this session
namespace Go.Proofs.YtjalkjeldlchoaaW.PrintWords
open Go.RowKit
namespace Kd
section
variable {α : Type} {d : Kd α} {e base n cap g : Nat} {ok ok' okp : Nat → Prop} {w w1 W : World} {v v1 : Value} {xs ys : List α}
end
section
variable {P : Program} {ops : Array Oper} {rest : List Oper} {o : Oper} {a : Act} {Q : Exit → Act → World → Prop} {Kc : Act → World → Prop} {α : Type}
end
end Kd
end Go.Proofs.YtjalkjeldlchoaaW.PrintWords
end
section
set_option linter.unusedSectionVars false
set_option linter.unusedSimpArgs false
set_option linter.unusedVariables false
-- PRINTED BY print.sh 35421559b90ae4d0a3588c463048766b98c2df88dd9212a6774a882060cdf62d: not written by this session
-- PRINTED WORDS (module Derived/Print/More.lean): go-gate-2's additions: an AI agent of Go's test side, Tue Nov 17 2026; no person has read it. Lean checks it.
namespace Go.Proofs.YtjalkjeldlchoaaW.PrintMore
open Go.RowKit Go.Proofs.YtjalkjeldlchoaaW.PrintWords
namespace Kd
open Go.Proofs.YtjalkjeldlchoaaW.PrintWords.Kd
end Kd

namespace Kd
open Go.Proofs.YtjalkjeldlchoaaW.PrintWords.Kd
section
variable {α : Type} {d : Kd α} {e base g N : Nat} {ok : Nat → Prop} {W w1 : World} {u v : Value} {xs : List α}
end
end Kd
theorem max2_int (k k' : IntKind) (x y : Int) : Builtin.max2 (.int k x) (.int k' y) = pure (.int k (if x < y then y else x)) := by simp only [Builtin.max2, gt_iff_lt]
theorem min2_int (k k' : IntKind) (x y : Int) : Builtin.min2 (.int k x) (.int k' y) = pure (.int k (if y < x then y else x)) := by simp only [Builtin.min2]
theorem max_two (ats : Array TypeId) (ty : TypeId) (a b : Value) : Builtin.max_ ats ty #[a, b] = (Builtin.max2 a b >>= fun s => pure s) := by simp only [Builtin.max_, List.foldlM_cons, List.foldlM_nil]
theorem min_two (ats : Array TypeId) (ty : TypeId) (a b : Value) : Builtin.min_ ats ty #[a, b] = (Builtin.min2 a b >>= fun s => pure s) := by simp only [Builtin.min_, List.foldlM_cons, List.foldlM_nil]
end Go.Proofs.YtjalkjeldlchoaaW.PrintMore
namespace Go.Proofs.YtjalkjeldlchoaaW.PrintWords
open Go.RowKit
section
variable {P : Program} {ops : Array Oper} {rest : List Oper} {o : Oper} {a : Act} {Q : Exit → Act → World → Prop} {W : World}
end
def mx (a b : Int) : Int := if a < b then b else a
def mn (a b : Int) : Int := if b < a then b else a
def shl (k : IntKind) (x y : Int) : Int := k.wrap (x * 2 ^ min y.toNat k.bits)
def shr (k : IntKind) (x y : Int) : Int := x / 2 ^ min y.toNat k.bits
namespace Kd
section
variable {α : Type} {d : Kd α} {e base : Nat} {ok : Nat → Prop} {W w1 : World} {v : Value} {xs : List α}
end
section
variable {α : Type} {d : Kd α} {e base g n cap : Nat} {ok oki okp : Nat → Prop} {W : World} {xs : List α} {i : Int} {c : List Value}
end
section
variable {α : Type} {d : Kd α} {e base b b' g N : Nat} {ok ok1 : Nat → Prop} {W W2 w1 : World} {u v : Value} {xs ys : List α} {S : Nat → Prop}
end
end Kd
end Go.Proofs.YtjalkjeldlchoaaW.PrintWords
namespace Go.Proofs.YtjalkjeldlchoaaW.PrintWords
open Go.RowKit
namespace Kd
section
variable {α β : Type} {d : Kd α} {e base base' n m c g N' lo hi : Nat} {ok ok' S : Nat → Prop} {w W w1 : World} {A : Option Addr} {ad : Addr} {u v v1 : Value} {xs : List α}
end
end Kd
end Go.Proofs.YtjalkjeldlchoaaW.PrintWords
end
section
set_option linter.unusedSectionVars false
set_option linter.unusedSimpArgs false
set_option linter.unusedVariables false
namespace Go.Proofs.Ytjalkjeldlchoaa.X
open Go.RowKit Go.Proofs.YtjalkjeldlchoaaW.PrintWords Go.Proofs.YtjalkjeldlchoaaW.PrintLast
set_option linter.unusedVariables false
set_option linter.unusedSimpArgs false
def k23 : Kd S23 := Kd.iso (Kd.pair (Kd.int .i64) (Kd.int .i64)) (fun x : S23 => (x.f0, x.f1))
theorem k23_open {w : World} {x : S23} {cs : List Value} (h : k23.K w x cs) : cs = [.int .i64 x.f0, .int .i64 x.f1] := by
  obtain ⟨_, _, rfl, rfl, rfl⟩ := h
  exact rfl
theorem k23_mk (w : World) (x : S23) : k23.K w x [.int .i64 x.f0, .int .i64 x.f1] := ⟨[.int .i64 x.f0], [.int .i64 x.f1], rfl, rfl, rfl⟩
theorem at_T23 {w : World} {A : Option Addr} {n : Nat} {xs : List S23} (h : Kd.C k23 w A n xs) (i : Int) (h0 : 0 ≤ i) (h1 : i < n) : ∃ ad , A = some ad ∧ w.cell? (ad.add (i.toNat * 2)) = some (.int .i64 (rd_T23 xs i).f0) ∧ w.cell? ⟨(ad.add (i.toNat * 2)).block, (ad.add (i.toNat * 2)).off + 1, none⟩ = some (.int .i64 (rd_T23 xs i).f1) := by
 obtain ⟨ad, c, e, _, hK, hc0⟩ := Kd.C_get h z23 i h0 h1
 have hc : ∀ j u, c[j]? = some u → w.cell? (ad.add (i.toNat * 2 + j)) = some u := hc0
 obtain rfl := k23_open hK
 exact ⟨ad, e, hc 0 _ rfl, by rw [← add_field _ _ 1 (by omega)]; exact hc 1 _ rfl⟩
end Go.Proofs.Ytjalkjeldlchoaa.X
end
section
set_option linter.unusedSectionVars false
set_option linter.unusedSimpArgs false
set_option linter.unusedVariables false
namespace Go.Proofs.Ytjalkjeldlchoaa.HKit
open Go.RowKit Go.Proofs.YtjalkjeldlchoaaW.PrintWords Go.Proofs.YtjalkjeldlchoaaW.PrintLast Go.Proofs.YtjalkjeldlchoaaW.PrintMore
set_option linter.unusedVariables false
set_option linter.unusedSimpArgs false
theorem heap_at (W : World) (o : Obj) (g : Nat) (h : g = W.heap.size) : (W.alloc o).heap[g]? = some o := by
  subst h
  simpa using heap_alloc_new W o
section
variable {P : Program} {ops : Array Oper} {rest : List Oper} {o : Oper} {a : Act} {Q : Exit → Act → World → Prop} {α : Type}
end
def marks : List Int := [-7770777, -7770777, -7770777, -7770777]
def IsLent (w : World) (base : Nat) (v : Value) (l : List Int) : Prop := ∃ A c, v = .slice A l.length c ∧ l.length + 4 ≤ c ∧ Kd.R (Kd.int .i64) 3 w base (fun _ => True) (.slice A (l.length + 4) c) (l ++ marks)
theorem IsLent.row {w : World} {base : Nat} {v : Value} {l : List Int} (h : IsLent w base v l) : Kd.R (Kd.int .i64) 3 w base (fun _ => True) v l := by
  obtain ⟨A, c, rfl, hc, hr⟩ := h
  have := Kd.R_take (m := l.length) hr (by simp [marks])
  rwa [List.take_append_of_le_length (Nat.le_refl _), List.take_of_length_le (Nat.le_refl _)] at this
theorem IsLent.below {w w1 : World} {base : Nat} {v : Value} {l : List Int} (h : IsLent w base v l) (hb : Below w.heap.size w w1) : IsLent w1 base v l := by
  obtain ⟨A, c, rfl, hc, hr⟩ := h
  exact ⟨A, c, rfl, hc, Kd.R_below hr hb⟩
theorem IsLent.reads {w : World} {base : Nat} {v : Value} {l : List Int} (h : IsLent w base v l) : ∃ A c, v = .slice A l.length c ∧ l.length ≤ c ∧ Kd.C (Kd.int .i64) w A l.length l := Kd.R_reads h.row
end Go.Proofs.Ytjalkjeldlchoaa.HKit
end
section
set_option linter.unusedSectionVars false
set_option linter.unusedSimpArgs false
set_option linter.unusedVariables false
namespace Go.Proofs.Ytjalkjeldlchoaa.X
open Go.RowKit Go.Proofs.YtjalkjeldlchoaaW.PrintWords Go.Proofs.YtjalkjeldlchoaaW.PrintLast Go.Proofs.YtjalkjeldlchoaaW.PrintMore Go.Proofs.Ytjalkjeldlchoaa.HKit
attribute [local go_sem] max2_int min2_int max_two min_two
set_option linter.unusedVariables false
set_option linter.unusedSimpArgs false
def PtsAt (W : World) (b off : Nat) (zs : List S23) : Prop := ∀ k : Nat, k < zs.length → W.cell? ⟨b, off + k * 2, none⟩ = some (.int .i64 (rd_T23 zs (k : Int)).f0) ∧ W.cell? ⟨b, off + k * 2 + 1, none⟩ = some (.int .i64 (rd_T23 zs (k : Int)).f1)
theorem PtsAt.below {n₀ : Nat} {W W' : World} {b off : Nat} {zs : List S23} (h : PtsAt W b off zs) (hb : b < n₀) (hw : Below n₀ W W') : PtsAt W' b off zs :=
  fun k hk => ⟨(hw.cell (p := ⟨b, off + k * 2, none⟩) hb).trans (h k hk).1, (hw.cell (p := ⟨b, off + k * 2 + 1, none⟩) hb).trans (h k hk).2⟩
theorem pts_of {W : World} {A : Option Addr} {zs : List S23} (h : Kd.C k23 W A zs.length zs) (h1 : 1 ≤ zs.length) : ∃ b off, A = some ⟨b, off, none⟩ ∧ b < W.heap.size ∧ PtsAt W b off zs := by
  obtain ⟨ad, ea, hx0, _⟩ := at_T23 h 0 (by omega) (by omega)
  obtain ⟨b, off, sp⟩ := ad
  have hs : sp = none := by
    cases sp with
    | none => rfl
    | some s =>
      exfalso
      simp only [Int.toNat_zero, Nat.zero_mul, Addr.add, if_true, World.cell?] at hx0
      split at hx0 <;> simp at hx0
  subst hs
  refine ⟨b, off, ea, World.block_lt_of_cell? W _ hx0, fun k hk => ?_⟩
  obtain ⟨ad', ea', h0, h2⟩ := at_T23 h (k : Int) (by omega) (by omega)
  rw [ea] at ea'
  cases ea'
  have e : (⟨b, off, none⟩ : Addr).add ((k : Int).toNat * 2) = ⟨b, off + k * 2, none⟩ := by
    unfold Addr.add
    by_cases hk0 : k = 0
    · subst hk0; rfl
    · rw [if_neg (by omega)]; simp
  rw [e] at h0 h2
  exact ⟨h0, h2⟩
set_option maxHeartbeats 2000000 in
theorem pred51 (x : S23) (W : World) : Calls Try.prog 87 #[.agg #[.int .i64 x.f0, .int .i64 x.f1]] W fun e w' => e = .returned (.bool (outP x)) ∧ Below W.heap.size W w' := by
  have hr : (outP x = true) ↔ (x.f0 < -536870912 ∨ x.f1 < -536870912 ∨ x.f0 > 536870912 ∨ x.f1 > 536870912) := by simp [outP]
  generalize outP x = r at hr ⊢
  have HO := Aside0.mk hr
  clear hr
  go_enter Try.func87, Try.ntmps87
  go_wp2
  all_goals go_ret
  all_goals refine ⟨?_, below_alloc (Below.refl _ _) _⟩
  all_goals refine congrArg (fun b => Ending.returned (Value.bool b)) (?_ : _ = r)
  all_goals (have hr := HO.out; rw [Bool.eq_iff_iff, hr]; simp; omega)
set_option maxHeartbeats 2000000 in
theorem index57 (b off c : Nat) (zs : List S23) (w : World) (hb : b < w.heap.size) (hr0 : PtsAt w b off zs) (hz : zs.length ≤ 1099511627776) :
    Calls Try.prog 95 #[.slice (some ⟨b, off, none⟩) zs.length c, .func (.func 87) #[] #[]] w fun e w' => ∃ r : Int, e = .returned (.int .i64 r) ∧ decide (0 ≤ r) = zs.any outP ∧ Below w.heap.size w w' := by
  have HR0 := Aside0.mk hr0
  clear hr0
  go_enter Try.func95, Try.ntmps95
  go_wp2
  go_loopw [5, 8] (fun _ v8 wr => ∃ kk : Nat, kk ≤ zs.length ∧ v8 = .int .i64 kk ∧ Aside0 (Below w.heap.size w wr) ∧ Aside0 (∀ j : Nat, j < kk → outP (rd_T23 zs (j : Int)) = false)) (fun _ v _ => zs.length - (intOf v).toNat)
  case atStart => exact ⟨0, Nat.zero_le _, rfl, ⟨Below.refl _ w⟩, ⟨fun j hj => absurd hj (Nat.not_lt_zero _)⟩⟩
  case round =>
    obtain ⟨kk, hkk, rfl, HB, HA⟩ := hrel
    have hw1 : wrap64 ((kk : Int) + 1) = ((kk + 1 : Nat) : Int) := by unfold wrap64; omega
    by_cases hlt : kk < zs.length
    · have hltz : decide ((kk : Int) < (zs.length : Int)) = true := decide_eq_true (by omega)
      obtain ⟨hx0, hx1⟩ := HR0.out.below hb HB.out kk hlt
      have hcall := pred51 (rd_T23 zs (kk : Int))
      generalize hy : rd_T23 zs (kk : Int) = y at hx0 hx1 hcall
      have HY := Aside0.mk hy
      clear hy
      have p0 : (0 : Int) ≤ (kk : Int) := by omega
      cases hq : outP y with
      | true =>
        rw [hq] at hcall
        go_wp2_with (go_at_call 87; refine (hcall _).mono ?_; rintro e w' ⟨rfl, hb'⟩)
        go_ret
        refine ⟨(kk : Int), rfl, ?_, below_step HB.out hb'⟩
        rw [decide_eq_true p0]
        refine (List.any_eq_true.2 ⟨y, ?_, hq⟩).symm
        rw [← HY.out]
        show zs.getD ((kk : Int).toNat) z23 ∈ zs
        rw [Int.toNat_natCast, List.getD_eq_getElem?_getD, List.getElem?_eq_getElem hlt]
        exact List.getElem_mem hlt
      | false =>
        rw [hq] at hcall
        go_wp2_with (go_at_call 87; refine (hcall _).mono ?_; rintro e w' ⟨rfl, hb'⟩)
        go_roundw
        case rel =>
          refine ⟨kk + 1, by omega, by first | rfl | (rw [hw1]; done) | (simp; done) | go_num, ⟨below_step HB.out hb'⟩, ⟨fun j hj => ?_⟩⟩
          by_cases e : j = kk
          · subst e
            rw [HY.out]; exact hq
          · exact HA.out j (by omega)
        case measure => simp [intOf]; omega
    · have hltz : decide ((kk : Int) < (zs.length : Int)) = false := decide_eq_false (by omega)
      go_wp2
      go_ret
      refine ⟨-1, rfl, ?_, HB.out⟩
      refine Eq.trans (by decide) (List.any_eq_false.2 ?_).symm
      intro y hy hq
      obtain ⟨j, hj, rfl⟩ := List.getElem_of_mem hy
      have := HA.out j (by omega)
      rw [show rd_T23 zs (j : Int) = zs[j] by simp [rd_T23, hj]] at this
      rw [hq] at this
      cases this
set_option maxHeartbeats 1000000 in
theorem index57n (A : Option Addr) (c : Nat) (v : Value) (w : World) :
    Calls Try.prog 95 #[.slice A 0 c, v] w fun e w' => ∃ r : Int, e = .returned (.int .i64 r) ∧ decide (0 ≤ r) = ([] : List S23).any outP ∧ Below w.heap.size w w' := by
  go_enter Try.func95, Try.ntmps95
  go_wp2
  go_loopw [5, 8] (fun _ v8 wr => v8 = .int .i64 0 ∧ wr = w) (fun _ v _ => 0)
  case atStart => exact ⟨rfl, rfl⟩
  case round =>
    obtain ⟨rfl, rfl⟩ := hrel
    go_wp2
    go_ret
    exact ⟨-1, rfl, by decide, Below.refl _ _⟩
theorem contains50 (A : Option Addr) (c : Nat) (zs : List S23) (w : World) (hr0 : Kd.C k23 w A zs.length zs) (hz : zs.length ≤ 1099511627776) :
    Calls Try.prog 86 #[.slice A zs.length c, .func (.func 87) #[] #[]] w fun e w' => e = .returned (.bool (zs.any outP)) ∧ Below w.heap.size w w' := by
  have H : Aside0 (Calls Try.prog 95 #[.slice A zs.length c, .func (.func 87) #[] #[]] w fun e w' => ∃ r : Int, e = .returned (.int .i64 r) ∧ decide (0 ≤ r) = zs.any outP ∧ Below w.heap.size w w') := ⟨by
    by_cases h1 : 1 ≤ zs.length
    · obtain ⟨b, off, rfl, hb, hp⟩ := pts_of hr0 h1
      exact index57 b off c zs w hb hp hz
    · obtain rfl : zs = [] := List.length_eq_zero_iff.1 (by omega)
      exact index57n A c _ w⟩
  clear hr0
  generalize zs.any outP = b0 at H ⊢
  go_enter Try.func86, Try.ntmps86
  go_wp2_with (go_at_call 95; refine H.out.mono ?_; rintro e w' ⟨r, rfl, hr, hb⟩)
  go_ret
  exact ⟨by rw [← hr]; rfl, hb⟩
def geo_fits.f (l : List S23) : Option Bool := if l.length ≤ 1099511627776 then some (!(l.any outP)) else none
theorem geo_fits.calls (A0 : Option Addr) (c0 : Nat) (l0 : List S23) (r : Bool) (w : World) (hr0 : Kd.C k23 w A0 l0.length l0) (hc0 : l0.length ≤ c0) (h : geo_fits.f l0 = some r) :
    Calls Try.prog 68 #[.slice A0 l0.length c0] w fun e w' => e = .returned (.bool r) ∧ Below w.heap.size w w' := by
  unfold geo_fits.f at h
  split at h
  · obtain rfl := Option.some.inj h
    have H := Aside0.mk (contains50 A0 c0 l0 w hr0 ‹_›)
    clear hr0 h
    generalize l0.any outP = b at H ⊢
    go_enter Try.func68, Try.ntmps68
    go_wp2_with (go_at_call 86; refine H.out.mono ?_; rintro e w' ⟨rfl, hb⟩)
    go_ret
    exact ⟨rfl, hb⟩
  · cases h
end Go.Proofs.Ytjalkjeldlchoaa.X
end
section
set_option linter.unusedSectionVars false
set_option linter.unusedSimpArgs false
set_option linter.unusedVariables false
namespace Go.Proofs.Ytjalkjeldlchoaa.X
open Go.RowKit Go.Shelf Go.Proofs.YtjalkjeldlchoaaW.PrintWords Go.Proofs.YtjalkjeldlchoaaW.PrintLast Go.Proofs.YtjalkjeldlchoaaW.PrintMore Go.Proofs.Ytjalkjeldlchoaa.HKit
attribute [local go_sem] Oper.semAt_some
set_option linter.unusedVariables false
set_option linter.unusedSimpArgs false
def aggP (p : S23) : Value := .agg #[.int .i64 p.f0, .int .i64 p.f1]
def encS (x : S23 × S23) : Array Value := #[aggP x.1, aggP x.2]
theorem sideAt_lt {zs : List S23} {k : Nat} (h : k < zs.length - 1) : sideAt zs k = (rd_T23 zs (k : Int), rd_T23 zs ((k : Int) + 1)) := by
  unfold sideAt
  rw [Nat.mod_eq_of_lt (by omega)]
  rfl
theorem sideAt_last {zs : List S23} (h : 1 ≤ zs.length) : sideAt zs (zs.length - 1) = (rd_T23 zs ((zs.length : Int) - 1), rd_T23 zs 0) := by
  unfold sideAt
  rw [show zs.length - 1 + 1 = zs.length by omega, Nat.mod_self, show ((zs.length - 1 : Nat) : Int) = (zs.length : Int) - 1 by omega]
  rfl
theorem below_drewK (n₀ : Nat) (W : World) : Below n₀ W W.drew := ⟨rfl, rfl, rfl, Nat.le_refl _, fun _ _ => rfl⟩
theorem upt_length (zs : List S23) (k : Nat) : (upt zs k).length = k := by simp [upt]
set_option maxHeartbeats 1000000 in
theorem sides_in (F : Fence) (n : Nat) (hf : F.fn 69) (hro : F.round = none) (a : Option Addr) (len cap : Nat) (w : World) :
    CallsIn F n Try.prog 69 #[.slice a len cap] w fun e w' => e = .returned (.func (.func 88) #[] #[.pointer (some ⟨w.heap.size, 0, none⟩)]) ∧ w' = w.alloc (.cells #[.slice a len cap] 22) := by
  refine callsIn_of_wp Try.func69 rfl hf ?_ hro
  simp only [Try.ntmps69, List.size_toArray, List.length_cons, List.length_nil, Nat.reduceAdd, Nat.reduceSub, Array.replicate_succ, Array.replicate_zero, List.push_toArray, List.append_toArray, List.nil_append, List.cons_append]
  gi_wp2
  go_ret
  exact ⟨rfl, rfl⟩
def KpS (n₀ Bs : Nat) (W W' : World) : Prop := Below n₀ W W' ∧ (Bs < W.heap.size → W'.heap[Bs]? = W.heap[Bs]?)
theorem KpS.refl (n₀ Bs : Nat) (W : World) : KpS n₀ Bs W W := ⟨Below.refl _ _, fun _ => rfl⟩
theorem KpS.trans {n₀ Bs : Nat} {A B C : World} (h : KpS n₀ Bs A B) (k : KpS n₀ Bs B C) : KpS n₀ Bs A C := ⟨h.1.trans k.1, fun hb => (k.2 (Nat.lt_of_lt_of_le hb h.1.size)).trans (h.2 hb)⟩
theorem KpS.grown {n₀ Bs : Nat} {W W' : World} (hg : W.grownBy W' none) (hn : n₀ ≤ W.heap.size) : KpS n₀ Bs W W' := ⟨(Below.refl n₀ W).grown hg hn (fun k e => by cases e), fun hb => hg.block Bs hb (by simp)⟩
theorem KpS.alloc {n₀ Bs : Nat} {W : World} (hn : n₀ ≤ W.heap.size) (o : Obj) : KpS n₀ Bs W (W.alloc o) := KpS.grown (World.grownBy_alloc W o none) hn
theorem KpS.drew (n₀ Bs : Nat) (W : World) : KpS n₀ Bs W W.drew := ⟨below_drewK _ _, fun _ => rfl⟩
theorem KpS.put {n₀ Bs : Nat} {w : World} (hn : n₀ ≤ w.heap.size) (hB : Bs < w.heap.size) (W : World) (l : Nat) (o o' : Obj) (hl : w.heap.size ≤ l) (h : W.heap[l]? = some o) (_ : o.isCells = false) (_ : o.isWalk = false) : KpS n₀ Bs W (W.putObj l o') :=
  ⟨(Below.refl n₀ W).grown (grownBy_putObj' W l o') (by have := (Array.getElem?_eq_some_iff.1 h).1; omega) (fun k e => by cases e; omega), fun hb => (grownBy_putObj' W l o').block Bs hb (by intro e; cases e; omega)⟩
theorem KpS.cellB {n₀ Bs : Nat} {W W' : World} (h : KpS n₀ Bs W W') (hb : Bs < W.heap.size) (j : Nat) : W'.cell? ⟨Bs, j, none⟩ = W.cell? ⟨Bs, j, none⟩ := by
  unfold World.cell?
  rw [h.2 hb]
theorem KpS.of_below {n₀ n Bs : Nat} {W W' : World} (h : Below n W W') (hn : n₀ ≤ n) (hB : Bs < n) : KpS n₀ Bs W W' := ⟨h.mono hn, fun _ => h.block Bs hB⟩
set_option maxRecDepth 100000 in
set_option maxHeartbeats 4000000 in
theorem sides1_in (F : Fence) (n : Nat) (h55 : F.fn 88) (hro : F.round = none) (hn : 1 ≤ n) (l Bs n₀ b off cap : Nat) (zs : List S23) (hz1 : 1 ≤ zs.length) (hz : zs.length ≤ 1099511627776) (J Jx : List (S23 × S23) → World → Prop) (W : World)
    (hJ : AbidesFrom W.heap.size J)
    (hY : ∀ pre x W, J pre W → pre.length < zs.length → YieldAt F (n - 1) Try.prog l (encS x) W fun e W' =>
      (e = .returned (.bool true) ∧ J (pre ++ [x]) W' ∧ KpS n₀ Bs W W') ∨ (e = .returned (.bool false) ∧ Jx (pre ++ [x]) W'))
    (hBs : W.cell? ⟨Bs, 0, none⟩ = some (.slice (some ⟨b, off, none⟩) zs.length cap)) (hBl : Bs < W.heap.size) (hb : b < n₀) (hn₀ : n₀ ≤ W.heap.size) (hc : PtsAt W b off zs) (h0 : J [] W) :
    CallsIn F n Try.prog 88 #[.func (.yield l) #[] #[], .pointer (some ⟨Bs, 0, none⟩)] W fun e W' => (∃ v, e = .returned v) ∧
      ((∃ ys, ys = upt zs zs.length ∧ J ys W') ∨ (∃ pre, (∃ k, k ≤ zs.length ∧ pre = upt zs k) ∧ Jx pre W')) := by
  refine callsIn_of_wp Try.func88 rfl h55 ?_ hro
  simp only [Try.ntmps88, List.size_toArray, List.length_cons, List.length_nil, Nat.reduceAdd, Nat.reduceSub, Array.replicate_succ, Array.replicate_zero, List.push_toArray, List.append_toArray, List.nil_append, List.cons_append]
  gi_wp2
  gi_loopw [11] (fun i wr => ∃ k : Nat, k ≤ zs.length ∧ i = .int .i64 k ∧ J (upt zs (min k (zs.length - 1))) wr ∧ KpS n₀ Bs W wr ∧ W.heap.size ≤ wr.heap.size)
    (fun i _ => zs.length - (intOf i).toNat)
  case atStart => exact ⟨0, Nat.zero_le _, rfl, by simpa [upt] using h0, KpS.refl _ _ _, Nat.le_refl _⟩
  case round =>
    obtain ⟨k, hk, rfl, hJs, hnx, hsz⟩ := hrel
    have hBr : wr.cell? ⟨Bs, 0, none⟩ = some (.slice (some ⟨b, off, none⟩) zs.length cap) := (hnx.cellB hBl 0).trans hBs
    have hBw : Bs < wr.heap.size := by omega
    by_cases hkl : k < zs.length
    · obtain ⟨hx0, hx1⟩ := hc.below hb hnx.1 k hkl
      have hwk : wrap64 ((k : Int) + 1) = ((k + 1 : Nat) : Int) := by unfold wrap64; omega
      have hwk2 : IntKind.i64.wrap ((k : Int) + 1) = (k : Int) + 1 := by rw [IntKind.wrap_i64]; omega
      by_cases hlast : k < zs.length - 1
      · obtain ⟨hy0, hy1⟩ := hc.below hb hnx.1 (k + 1) (by omega)
        have c2 : decide ((k : Int) < (zs.length : Int) - 1) = true := decide_eq_true (by omega)
        obtain ⟨W1, hW1⟩ : ∃ W1, wr.alloc (.cells #[.int .i64 (rd_T23 zs (k : Int)).f0, .int .i64 (rd_T23 zs (k : Int)).f1] 39) = W1 := ⟨_, rfl⟩
        have hb1 : KpS n₀ Bs wr W1 := by rw [← hW1]; exact KpS.alloc (by omega) _
        have hp0 : W1.cell? ⟨wr.heap.size, 0, none⟩ = some (.int .i64 (rd_T23 zs (k : Int)).f0) := by rw [← hW1]; simp
        have hp1 : W1.cell? ⟨wr.heap.size, 1, none⟩ = some (.int .i64 (rd_T23 zs (k : Int)).f1) := by rw [← hW1]; simp
        have hBr1 := (hb1.cellB hBw 0).trans hBr
        have hJ1 : J (upt zs k) W1.drew := by
          have e : min k (zs.length - 1) = k := by omega
          rw [e] at hJs
          exact hJ _ _ _ none hJs (by rw [← hW1]; exact (World.grownBy_alloc wr _ none).trans ⟨rfl, rfl, rfl, Nat.le_refl _, fun _ _ _ => rfl⟩) (fun r e => by cases e)
        obtain ⟨fn, tmps, assign, body, hyl, hR⟩ := hY _ (rd_T23 zs (k : Int), rd_T23 zs ((k : Int) + 1)) _ hJ1 (by rw [upt_length]; exact hkl)
        dsimp only [encS, aggP] at hyl
        gi_wp2
        (try rw [hW1])
        have hz0 := (hb1.1.cell (p := ⟨b, off + (k + 1) * 2, none⟩) hb).trans hy0
        have hz1 := (hb1.1.cell (p := ⟨b, off + (k + 1) * 2 + 1, none⟩) hb).trans hy1
        clear hy0 hy1
        refine wpIn_region_any (by kernel_rfl) ?_
        change wpAnyIn _ _ _ _ _ _ _ _ _ (World.drew _)
        refine wpAnyIn_take (i := 0) (v := .int .i64 k) hro rfl (by kernel_rfl) (by kernel_rfl) (by kernel_rfl) (fun _ _ _ h => h) ⟨Or.inl ⟨by rfl, by (intro w; go_simp)⟩, fun _ => rfl⟩ ?_
        refine wpAnyIn_take (i := 1) (v := .int .i64 ((zs.length : Int) - 1)) hro rfl (by kernel_rfl) (by kernel_rfl) (by kernel_rfl) (fun _ _ _ h => h) ⟨Or.inl ⟨by rfl, by (intro w; go_simp)⟩, fun _ => rfl⟩ ?_
        refine wpAnyIn_take (i := 2) (v := .bool true) hro rfl (by kernel_rfl) (by kernel_rfl) (by kernel_rfl) (fun _ _ _ h => h) ⟨Or.inl ⟨by rfl, by (intro w; go_simp)⟩, fun _ => rfl⟩ ?_
        (try go_simp)
        refine wpAnyIn_take (i := 3) (v := .bool true) hro rfl (by kernel_rfl) (by kernel_rfl) (by kernel_rfl) (fun _ _ _ h => h) ⟨Or.inl ⟨by rfl, by (intro w; go_simp)⟩, fun _ => rfl⟩ ?_
        refine wpAnyIn_take (i := 4) (v := .func (.yield l) #[] #[]) hro rfl (by kernel_rfl) (by kernel_rfl) (by kernel_rfl) (fun _ _ _ h => h) ⟨Or.inl ⟨by rfl, by (intro w; go_simp)⟩, fun _ => rfl⟩ ?_
        refine wpAnyIn_take (i := 7) (v := .int .i64 k) hro rfl (by kernel_rfl) (by kernel_rfl) (by kernel_rfl) (fun _ _ _ h => h) ⟨Or.inl ⟨by rfl, by (intro w; go_simp)⟩, fun _ => rfl⟩ ?_
        (try go_simp)
        refine wpAnyIn_take (i := 8) (v := .int .i64 ((k + 1 : Nat) : Int)) hro rfl (by kernel_rfl) (by kernel_rfl) (by kernel_rfl) (fun _ _ _ h => h) ⟨Or.inl ⟨by rfl, by (intro w; go_simp; first | done | exact hwk | exact hwk2)⟩, fun _ => rfl⟩ ?_
        refine wpAnyIn_ready (rs := [5, 6]) (by kernel_rfl) (by simp) ?_
        refine AllReadyIn.cons rfl (fun K hK => ?_) (AllReadyIn.cons rfl (fun K hK => ?_) AllReadyIn.nil)
        · go_simp
          refine hK _ _ ?_
          clear hK K
          refine wpAnyIn_ready (rs := [6]) (by kernel_rfl) (by simp) ?_
          refine AllReadyIn.cons rfl (fun K hK => ?_) AllReadyIn.nil
          go_simp
          refine hK _ _ ?_
          clear hK K
          refine wpAnyIn_take (i := 9) (v := .pointer (some ⟨b, off + (k + 1) * 2, none⟩)) hro rfl (by kernel_rfl) (by kernel_rfl) (by kernel_rfl) (fun _ _ _ h => h) ⟨Or.inl ⟨by rfl, by (intro w; go_simp; (try (intro h; omega)))⟩, fun _ => rfl⟩ ?_
          refine wpAnyIn_ready (rs := [10]) (by kernel_rfl) (by simp) ?_
          refine AllReadyIn.cons rfl (fun K hK => ?_) AllReadyIn.nil
          go_simp
          refine hK _ _ ?_
          clear hK K
          refine wpAnyIn_ready (rs := [11]) (by kernel_rfl) (by simp) ?_
          refine AllReadyIn.cons rfl (fun K hK => ?_) AllReadyIn.nil
          go_simp
          (try rw [hyl])
          first | refine ⟨fun _ => by omega, hR.mono ?_⟩ | refine hR.mono ?_
          rintro e W3 (⟨rfl, hJ3, hk3⟩ | ⟨rfl, hJx3⟩)
          · refine hK _ _ ?_
            clear hK K
            refine wpAnyIn_take (i := 12) (v := .bool false) hro rfl (by kernel_rfl) (by kernel_rfl) (by kernel_rfl) (fun _ _ _ h => h) ⟨Or.inl ⟨by rfl, by (intro w; go_simp)⟩, fun _ => rfl⟩ ?_
            refine wpAnyIn_take (i := 13) (v := .bool false) hro rfl (by kernel_rfl) (by kernel_rfl) (by kernel_rfl) (fun _ _ _ h => h) ⟨Or.inl ⟨by rfl, by (intro w; go_simp)⟩, fun _ => rfl⟩ ?_
            refine wpAnyIn_done (by kernel_rfl) ?_ _
            gi_wp2
            go_roundw
            case rel =>
              refine ⟨k + 1, by omega, by first | rfl | (simp; done) | go_num, ?_, hnx.trans (hb1.trans ((KpS.drew _ _ _).trans hk3)), Nat.le_trans hsz (Nat.le_trans (by rw [← hW1]; simp) hk3.1.size)⟩
              rw [show min (k + 1) (zs.length - 1) = k + 1 by omega, upt_succ, sideAt_lt hlast]
              exact hJ3
            case measure => simp [intOf]; omega
          · refine hK _ _ ?_
            clear hK K
            refine wpAnyIn_take (i := 12) (v := .bool true) hro rfl (by kernel_rfl) (by kernel_rfl) (by kernel_rfl) (fun _ _ _ h => h) ⟨Or.inl ⟨by rfl, by (intro w; go_simp)⟩, fun _ => rfl⟩ ?_
            refine wpAnyIn_take (i := 13) (v := .bool true) hro rfl (by kernel_rfl) (by kernel_rfl) (by kernel_rfl) (fun _ _ _ h => h) ⟨Or.inl ⟨by rfl, by (intro w; go_simp)⟩, fun _ => rfl⟩ ?_
            refine wpAnyIn_done (by kernel_rfl) ?_ _
            gi_wp2
            refine bodyPost_ret (results_none rfl _ _ _) rfl ?_
            exact ⟨⟨_, rfl⟩, .inr ⟨_, ⟨k + 1, by omega, by rw [upt_succ, sideAt_lt hlast]⟩, hJx3⟩⟩
        · go_simp
          refine hK _ _ ?_
          clear hK K
          refine wpAnyIn_take (i := 9) (v := .pointer (some ⟨b, off + (k + 1) * 2, none⟩)) hro rfl (by kernel_rfl) (by kernel_rfl) (by kernel_rfl) (fun _ _ _ h => h) ⟨Or.inl ⟨by rfl, by (intro w; go_simp; (try (intro h; omega)))⟩, fun _ => rfl⟩ ?_
          refine wpAnyIn_ready (rs := [5, 10]) (by kernel_rfl) (by simp) ?_
          refine AllReadyIn.cons rfl (fun K hK => ?_) (AllReadyIn.cons rfl (fun K hK => ?_) AllReadyIn.nil)
          · go_simp
            refine hK _ _ ?_
            clear hK K
            refine wpAnyIn_ready (rs := [10]) (by kernel_rfl) (by simp) ?_
            refine AllReadyIn.cons rfl (fun K hK => ?_) AllReadyIn.nil
            go_simp
            refine hK _ _ ?_
            clear hK K
            refine wpAnyIn_ready (rs := [11]) (by kernel_rfl) (by simp) ?_
            refine AllReadyIn.cons rfl (fun K hK => ?_) AllReadyIn.nil
            go_simp
            (try rw [hyl])
            first | refine ⟨fun _ => by omega, hR.mono ?_⟩ | refine hR.mono ?_
            rintro e W3 (⟨rfl, hJ3, hk3⟩ | ⟨rfl, hJx3⟩)
            · refine hK _ _ ?_
              clear hK K
              refine wpAnyIn_take (i := 12) (v := .bool false) hro rfl (by kernel_rfl) (by kernel_rfl) (by kernel_rfl) (fun _ _ _ h => h) ⟨Or.inl ⟨by rfl, by (intro w; go_simp)⟩, fun _ => rfl⟩ ?_
              refine wpAnyIn_take (i := 13) (v := .bool false) hro rfl (by kernel_rfl) (by kernel_rfl) (by kernel_rfl) (fun _ _ _ h => h) ⟨Or.inl ⟨by rfl, by (intro w; go_simp)⟩, fun _ => rfl⟩ ?_
              refine wpAnyIn_done (by kernel_rfl) ?_ _
              gi_wp2
              go_roundw
              case rel =>
                refine ⟨k + 1, by omega, by first | rfl | (simp; done) | go_num, ?_, hnx.trans (hb1.trans ((KpS.drew _ _ _).trans hk3)), Nat.le_trans hsz (Nat.le_trans (by rw [← hW1]; simp) hk3.1.size)⟩
                rw [show min (k + 1) (zs.length - 1) = k + 1 by omega, upt_succ, sideAt_lt hlast]
                exact hJ3
              case measure => simp [intOf]; omega
            · refine hK _ _ ?_
              clear hK K
              refine wpAnyIn_take (i := 12) (v := .bool true) hro rfl (by kernel_rfl) (by kernel_rfl) (by kernel_rfl) (fun _ _ _ h => h) ⟨Or.inl ⟨by rfl, by (intro w; go_simp)⟩, fun _ => rfl⟩ ?_
              refine wpAnyIn_take (i := 13) (v := .bool true) hro rfl (by kernel_rfl) (by kernel_rfl) (by kernel_rfl) (fun _ _ _ h => h) ⟨Or.inl ⟨by rfl, by (intro w; go_simp)⟩, fun _ => rfl⟩ ?_
              refine wpAnyIn_done (by kernel_rfl) ?_ _
              gi_wp2
              refine bodyPost_ret (results_none rfl _ _ _) rfl ?_
              exact ⟨⟨_, rfl⟩, .inr ⟨_, ⟨k + 1, by omega, by rw [upt_succ, sideAt_lt hlast]⟩, hJx3⟩⟩
          · go_simp
            refine hK _ _ ?_
            clear hK K
            refine wpAnyIn_ready (rs := [5]) (by kernel_rfl) (by simp) ?_
            refine AllReadyIn.cons rfl (fun K hK => ?_) AllReadyIn.nil
            go_simp
            refine hK _ _ ?_
            clear hK K
            refine wpAnyIn_ready (rs := [11]) (by kernel_rfl) (by simp) ?_
            refine AllReadyIn.cons rfl (fun K hK => ?_) AllReadyIn.nil
            go_simp
            (try rw [hyl])
            first | refine ⟨fun _ => by omega, hR.mono ?_⟩ | refine hR.mono ?_
            rintro e W3 (⟨rfl, hJ3, hk3⟩ | ⟨rfl, hJx3⟩)
            · refine hK _ _ ?_
              clear hK K
              refine wpAnyIn_take (i := 12) (v := .bool false) hro rfl (by kernel_rfl) (by kernel_rfl) (by kernel_rfl) (fun _ _ _ h => h) ⟨Or.inl ⟨by rfl, by (intro w; go_simp)⟩, fun _ => rfl⟩ ?_
              refine wpAnyIn_take (i := 13) (v := .bool false) hro rfl (by kernel_rfl) (by kernel_rfl) (by kernel_rfl) (fun _ _ _ h => h) ⟨Or.inl ⟨by rfl, by (intro w; go_simp)⟩, fun _ => rfl⟩ ?_
              refine wpAnyIn_done (by kernel_rfl) ?_ _
              gi_wp2
              go_roundw
              case rel =>
                refine ⟨k + 1, by omega, by first | rfl | (simp; done) | go_num, ?_, hnx.trans (hb1.trans ((KpS.drew _ _ _).trans hk3)), Nat.le_trans hsz (Nat.le_trans (by rw [← hW1]; simp) hk3.1.size)⟩
                rw [show min (k + 1) (zs.length - 1) = k + 1 by omega, upt_succ, sideAt_lt hlast]
                exact hJ3
              case measure => simp [intOf]; omega
            · refine hK _ _ ?_
              clear hK K
              refine wpAnyIn_take (i := 12) (v := .bool true) hro rfl (by kernel_rfl) (by kernel_rfl) (by kernel_rfl) (fun _ _ _ h => h) ⟨Or.inl ⟨by rfl, by (intro w; go_simp)⟩, fun _ => rfl⟩ ?_
              refine wpAnyIn_take (i := 13) (v := .bool true) hro rfl (by kernel_rfl) (by kernel_rfl) (by kernel_rfl) (fun _ _ _ h => h) ⟨Or.inl ⟨by rfl, by (intro w; go_simp)⟩, fun _ => rfl⟩ ?_
              refine wpAnyIn_done (by kernel_rfl) ?_ _
              gi_wp2
              refine bodyPost_ret (results_none rfl _ _ _) rfl ?_
              exact ⟨⟨_, rfl⟩, .inr ⟨_, ⟨k + 1, by omega, by rw [upt_succ, sideAt_lt hlast]⟩, hJx3⟩⟩
      · have c2 : decide ((k : Int) < (zs.length : Int) - 1) = false := decide_eq_false (by omega)
        obtain ⟨W1, hW1⟩ : ∃ W1, wr.alloc (.cells #[.int .i64 (rd_T23 zs (k : Int)).f0, .int .i64 (rd_T23 zs (k : Int)).f1] 39) = W1 := ⟨_, rfl⟩
        have hb1 : KpS n₀ Bs wr W1 := by rw [← hW1]; exact KpS.alloc (by omega) _
        have hJ1 : J (upt zs (zs.length - 1)) W1.drew := by
          have e : min k (zs.length - 1) = zs.length - 1 := by omega
          rw [e] at hJs
          exact hJ _ _ _ none hJs (by rw [← hW1]; exact (World.grownBy_alloc wr _ none).trans ⟨rfl, rfl, rfl, Nat.le_refl _, fun _ _ _ => rfl⟩) (fun r e => by cases e)
        gi_wp2
        (try rw [hW1])
        refine wpIn_region_any (by kernel_rfl) ?_
        change wpAnyIn _ _ _ _ _ _ _ _ _ (World.drew _)
        refine wpAnyIn_take (i := 0) (v := .int .i64 k) hro rfl (by kernel_rfl) (by kernel_rfl) (by kernel_rfl) (fun _ _ _ h => h) ⟨Or.inl ⟨by rfl, by (intro w; go_simp)⟩, fun _ => rfl⟩ ?_
        refine wpAnyIn_take (i := 1) (v := .int .i64 ((zs.length : Int) - 1)) hro rfl (by kernel_rfl) (by kernel_rfl) (by kernel_rfl) (fun _ _ _ h => h) ⟨Or.inl ⟨by rfl, by (intro w; go_simp)⟩, fun _ => rfl⟩ ?_
        refine wpAnyIn_take (i := 2) (v := .bool false) hro rfl (by kernel_rfl) (by kernel_rfl) (by kernel_rfl) (fun _ _ _ h => h) ⟨Or.inl ⟨by rfl, by (intro w; go_simp)⟩, fun _ => rfl⟩ ?_
        (try go_simp)
        refine wpAnyIn_take (i := 3) (v := .bool false) hro rfl (by kernel_rfl) (by kernel_rfl) (by kernel_rfl) (fun _ _ _ h => h) ⟨Or.inl ⟨by rfl, by (intro w; go_simp)⟩, fun _ => rfl⟩ ?_
        refine wpAnyIn_take (i := 4) (v := undef) hro rfl (by kernel_rfl) (by kernel_rfl) (by kernel_rfl) (fun _ _ _ h => h) ⟨Or.inr ⟨by rfl, rfl⟩, fun _ => rfl⟩ ?_
        refine wpAnyIn_take (i := 5) (v := undef) hro rfl (by kernel_rfl) (by kernel_rfl) (by kernel_rfl) (fun _ _ _ h => h) ⟨Or.inr ⟨by rfl, rfl⟩, fun _ => rfl⟩ ?_
        (try go_simp)
        refine wpAnyIn_take (i := 6) (v := undef) hro rfl (by kernel_rfl) (by kernel_rfl) (by kernel_rfl) (fun _ _ _ h => h) ⟨Or.inr ⟨by rfl, rfl⟩, fun _ => rfl⟩ ?_
        refine wpAnyIn_take (i := 7) (v := undef) hro rfl (by kernel_rfl) (by kernel_rfl) (by kernel_rfl) (fun _ _ _ h => h) ⟨Or.inr ⟨by rfl, rfl⟩, fun _ => rfl⟩ ?_
        refine wpAnyIn_take (i := 8) (v := undef) hro rfl (by kernel_rfl) (by kernel_rfl) (by kernel_rfl) (fun _ _ _ h => h) ⟨Or.inr ⟨by rfl, rfl⟩, fun _ => rfl⟩ ?_
        (try go_simp)
        refine wpAnyIn_take (i := 9) (v := undef) hro rfl (by kernel_rfl) (by kernel_rfl) (by kernel_rfl) (fun _ _ _ h => h) ⟨Or.inr ⟨by rfl, rfl⟩, fun _ => rfl⟩ ?_
        refine wpAnyIn_take (i := 10) (v := undef) hro rfl (by kernel_rfl) (by kernel_rfl) (by kernel_rfl) (fun _ _ _ h => h) ⟨Or.inr ⟨by rfl, rfl⟩, fun _ => rfl⟩ ?_
        refine wpAnyIn_take (i := 11) (v := undef) hro rfl (by kernel_rfl) (by kernel_rfl) (by kernel_rfl) (fun _ _ _ h => h) ⟨Or.inr ⟨by rfl, rfl⟩, fun _ => rfl⟩ ?_
        (try go_simp)
        refine wpAnyIn_take (i := 12) (v := undef) hro rfl (by kernel_rfl) (by kernel_rfl) (by kernel_rfl) (fun _ _ _ h => h) ⟨Or.inr ⟨by rfl, rfl⟩, fun _ => rfl⟩ ?_
        refine wpAnyIn_take (i := 13) (v := .bool false) hro rfl (by kernel_rfl) (by kernel_rfl) (by kernel_rfl) (fun _ _ _ h => h) ⟨Or.inl ⟨by rfl, by (intro w; go_simp)⟩, fun _ => rfl⟩ ?_
        refine wpAnyIn_done (by kernel_rfl) ?_ _
        gi_wp2
        go_roundw
        case rel =>
          refine ⟨k + 1, by omega, by first | rfl | (simp; done) | go_num, ?_, hnx.trans (hb1.trans (KpS.drew _ _ _)), Nat.le_trans hsz (by rw [← hW1]; simp)⟩
          rw [show min (k + 1) (zs.length - 1) = zs.length - 1 by omega]
          exact hJ1
        case measure => simp [intOf]; omega
    · obtain rfl : k = zs.length := by omega
      have c1 : decide ((zs.length : Int) < (zs.length : Int)) = false := decide_eq_false (by omega)
      have htn : ((zs.length : Int) - 1).toNat = zs.length - 1 := by omega
      have hsb : (((zs.length - 1 : Nat) : Int)) = (zs.length : Int) - 1 := by omega
      have hlb := hc.below hb hnx.1 (zs.length - 1) (by omega)
      rw [hsb] at hlb
      obtain ⟨hy0, hy1⟩ := hlb
      have h00 := hc.below hb hnx.1 0 (by omega)
      simp only [Nat.zero_mul, Nat.add_zero] at h00
      obtain ⟨hz0, hz1'⟩ := h00
      have hJ1 : J (upt zs (zs.length - 1)) wr.drew := by
        have e : min zs.length (zs.length - 1) = zs.length - 1 := by omega
        rw [e] at hJs
        exact hJ _ _ _ none hJs ⟨rfl, rfl, rfl, Nat.le_refl _, fun _ _ _ => rfl⟩ (fun r e => by cases e)
      obtain ⟨fn, tmps, assign, body, hyl, hR⟩ := hY _ (rd_T23 zs ((zs.length : Int) - 1), rd_T23 zs 0) _ hJ1 (by rw [upt_length]; omega)
      dsimp only [encS, aggP] at hyl
      gi_wp2
      refine wpIn_region_any (by kernel_rfl) ?_
      change wpAnyIn _ _ _ _ _ _ _ _ _ (World.drew _)
      refine wpAnyIn_take (i := 0) (v := .func (.yield l) #[] #[]) hro rfl (by kernel_rfl) (by kernel_rfl) (by kernel_rfl) (fun _ _ _ h => h) ⟨Or.inl ⟨by rfl, by (intro w; go_simp)⟩, fun _ => rfl⟩ ?_
      refine wpAnyIn_take (i := 2) (v := .int .i64 ((zs.length : Int) - 1)) hro rfl (by kernel_rfl) (by kernel_rfl) (by kernel_rfl) (fun _ _ _ h => h) ⟨Or.inl ⟨by rfl, by (intro w; go_simp)⟩, fun _ => rfl⟩ ?_
      refine wpAnyIn_ready (rs := [1, 5]) (by kernel_rfl) (by simp) ?_
      refine AllReadyIn.cons rfl (fun K hK => ?_) (AllReadyIn.cons rfl (fun K hK => ?_) AllReadyIn.nil)
      · go_simp
        refine hK _ _ ?_
        clear hK K
        refine wpAnyIn_take (i := 3) (v := .pointer (some ⟨b, off + (zs.length - 1) * 2, none⟩)) hro rfl (by kernel_rfl) (by kernel_rfl) (by kernel_rfl) (fun _ _ _ h => h) ⟨Or.inl ⟨by rfl, by (intro w; go_simp; (try rw [htn]); (try (intro h; omega)))⟩, fun _ => rfl⟩ ?_
        refine wpAnyIn_ready (rs := [4, 5]) (by kernel_rfl) (by simp) ?_
        refine AllReadyIn.cons rfl (fun K hK => ?_) (AllReadyIn.cons rfl (fun K hK => ?_) AllReadyIn.nil)
        · go_simp
          refine hK _ _ ?_
          clear hK K
          refine wpAnyIn_ready (rs := [5]) (by kernel_rfl) (by simp) ?_
          refine AllReadyIn.cons rfl (fun K hK => ?_) AllReadyIn.nil
          go_simp
          refine hK _ _ ?_
          clear hK K
          refine wpAnyIn_take (i := 6) (v := .pointer (some ⟨b, off, none⟩)) hro rfl (by kernel_rfl) (by kernel_rfl) (by kernel_rfl) (fun _ _ _ h => h) ⟨Or.inl ⟨by rfl, by (intro w; go_simp; (try (intro h; rw [h] at hz1; cases hz1)))⟩, fun _ => rfl⟩ ?_
          refine wpAnyIn_ready (rs := [7]) (by kernel_rfl) (by simp) ?_
          refine AllReadyIn.cons rfl (fun K hK => ?_) AllReadyIn.nil
          go_simp
          refine hK _ _ ?_
          clear hK K
          refine wpAnyIn_ready (rs := [8]) (by kernel_rfl) (by simp) ?_
          refine AllReadyIn.cons rfl (fun K hK => ?_) AllReadyIn.nil
          go_simp
          (try rw [hyl])
          first | refine ⟨fun _ => by omega, hR.mono ?_⟩ | refine hR.mono ?_
          rintro e W3 (⟨rfl, hJ3, hk3⟩ | ⟨rfl, hJx3⟩)
          · refine hK _ _ ?_
            clear hK K
            refine wpAnyIn_done (by kernel_rfl) ?_ _
            gi_wp2
            go_end0
            refine ⟨⟨_, rfl⟩, .inl ⟨_, rfl, ?_⟩⟩
            rw [show zs.length = zs.length - 1 + 1 by omega, upt_succ, sideAt_last hz1]
            exact hJ3
          · refine hK _ _ ?_
            clear hK K
            refine wpAnyIn_done (by kernel_rfl) ?_ _
            gi_wp2
            go_end0
            refine ⟨⟨_, rfl⟩, .inr ⟨_, ⟨zs.length, Nat.le_refl _, rfl⟩, ?_⟩⟩
            rw [show zs.length = zs.length - 1 + 1 by omega, upt_succ, sideAt_last hz1]
            exact hJx3
        · go_simp
          refine hK _ _ ?_
          clear hK K
          refine wpAnyIn_take (i := 6) (v := .pointer (some ⟨b, off, none⟩)) hro rfl (by kernel_rfl) (by kernel_rfl) (by kernel_rfl) (fun _ _ _ h => h) ⟨Or.inl ⟨by rfl, by (intro w; go_simp; (try (intro h; rw [h] at hz1; cases hz1)))⟩, fun _ => rfl⟩ ?_
          refine wpAnyIn_ready (rs := [4, 7]) (by kernel_rfl) (by simp) ?_
          refine AllReadyIn.cons rfl (fun K hK => ?_) (AllReadyIn.cons rfl (fun K hK => ?_) AllReadyIn.nil)
          · go_simp
            refine hK _ _ ?_
            clear hK K
            refine wpAnyIn_ready (rs := [7]) (by kernel_rfl) (by simp) ?_
            refine AllReadyIn.cons rfl (fun K hK => ?_) AllReadyIn.nil
            go_simp
            refine hK _ _ ?_
            clear hK K
            refine wpAnyIn_ready (rs := [8]) (by kernel_rfl) (by simp) ?_
            refine AllReadyIn.cons rfl (fun K hK => ?_) AllReadyIn.nil
            go_simp
            (try rw [hyl])
            first | refine ⟨fun _ => by omega, hR.mono ?_⟩ | refine hR.mono ?_
            rintro e W3 (⟨rfl, hJ3, hk3⟩ | ⟨rfl, hJx3⟩)
            · refine hK _ _ ?_
              clear hK K
              refine wpAnyIn_done (by kernel_rfl) ?_ _
              gi_wp2
              go_end0
              refine ⟨⟨_, rfl⟩, .inl ⟨_, rfl, ?_⟩⟩
              rw [show zs.length = zs.length - 1 + 1 by omega, upt_succ, sideAt_last hz1]
              exact hJ3
            · refine hK _ _ ?_
              clear hK K
              refine wpAnyIn_done (by kernel_rfl) ?_ _
              gi_wp2
              go_end0
              refine ⟨⟨_, rfl⟩, .inr ⟨_, ⟨zs.length, Nat.le_refl _, rfl⟩, ?_⟩⟩
              rw [show zs.length = zs.length - 1 + 1 by omega, upt_succ, sideAt_last hz1]
              exact hJx3
          · go_simp
            refine hK _ _ ?_
            clear hK K
            refine wpAnyIn_ready (rs := [4]) (by kernel_rfl) (by simp) ?_
            refine AllReadyIn.cons rfl (fun K hK => ?_) AllReadyIn.nil
            go_simp
            refine hK _ _ ?_
            clear hK K
            refine wpAnyIn_ready (rs := [8]) (by kernel_rfl) (by simp) ?_
            refine AllReadyIn.cons rfl (fun K hK => ?_) AllReadyIn.nil
            go_simp
            (try rw [hyl])
            first | refine ⟨fun _ => by omega, hR.mono ?_⟩ | refine hR.mono ?_
            rintro e W3 (⟨rfl, hJ3, hk3⟩ | ⟨rfl, hJx3⟩)
            · refine hK _ _ ?_
              clear hK K
              refine wpAnyIn_done (by kernel_rfl) ?_ _
              gi_wp2
              go_end0
              refine ⟨⟨_, rfl⟩, .inl ⟨_, rfl, ?_⟩⟩
              rw [show zs.length = zs.length - 1 + 1 by omega, upt_succ, sideAt_last hz1]
              exact hJ3
            · refine hK _ _ ?_
              clear hK K
              refine wpAnyIn_done (by kernel_rfl) ?_ _
              gi_wp2
              go_end0
              refine ⟨⟨_, rfl⟩, .inr ⟨_, ⟨zs.length, Nat.le_refl _, rfl⟩, ?_⟩⟩
              rw [show zs.length = zs.length - 1 + 1 by omega, upt_succ, sideAt_last hz1]
              exact hJx3
      · go_simp
        refine hK _ _ ?_
        clear hK K
        refine wpAnyIn_take (i := 6) (v := .pointer (some ⟨b, off, none⟩)) hro rfl (by kernel_rfl) (by kernel_rfl) (by kernel_rfl) (fun _ _ _ h => h) ⟨Or.inl ⟨by rfl, by (intro w; go_simp; (try (intro h; rw [h] at hz1; cases hz1)))⟩, fun _ => rfl⟩ ?_
        refine wpAnyIn_ready (rs := [1, 7]) (by kernel_rfl) (by simp) ?_
        refine AllReadyIn.cons rfl (fun K hK => ?_) (AllReadyIn.cons rfl (fun K hK => ?_) AllReadyIn.nil)
        · go_simp
          refine hK _ _ ?_
          clear hK K
          refine wpAnyIn_take (i := 3) (v := .pointer (some ⟨b, off + (zs.length - 1) * 2, none⟩)) hro rfl (by kernel_rfl) (by kernel_rfl) (by kernel_rfl) (fun _ _ _ h => h) ⟨Or.inl ⟨by rfl, by (intro w; go_simp; (try rw [htn]); (try (intro h; omega)))⟩, fun _ => rfl⟩ ?_
          refine wpAnyIn_ready (rs := [4, 7]) (by kernel_rfl) (by simp) ?_
          refine AllReadyIn.cons rfl (fun K hK => ?_) (AllReadyIn.cons rfl (fun K hK => ?_) AllReadyIn.nil)
          · go_simp
            refine hK _ _ ?_
            clear hK K
            refine wpAnyIn_ready (rs := [7]) (by kernel_rfl) (by simp) ?_
            refine AllReadyIn.cons rfl (fun K hK => ?_) AllReadyIn.nil
            go_simp
            refine hK _ _ ?_
            clear hK K
            refine wpAnyIn_ready (rs := [8]) (by kernel_rfl) (by simp) ?_
            refine AllReadyIn.cons rfl (fun K hK => ?_) AllReadyIn.nil
            go_simp
            (try rw [hyl])
            first | refine ⟨fun _ => by omega, hR.mono ?_⟩ | refine hR.mono ?_
            rintro e W3 (⟨rfl, hJ3, hk3⟩ | ⟨rfl, hJx3⟩)
            · refine hK _ _ ?_
              clear hK K
              refine wpAnyIn_done (by kernel_rfl) ?_ _
              gi_wp2
              go_end0
              refine ⟨⟨_, rfl⟩, .inl ⟨_, rfl, ?_⟩⟩
              rw [show zs.length = zs.length - 1 + 1 by omega, upt_succ, sideAt_last hz1]
              exact hJ3
            · refine hK _ _ ?_
              clear hK K
              refine wpAnyIn_done (by kernel_rfl) ?_ _
              gi_wp2
              go_end0
              refine ⟨⟨_, rfl⟩, .inr ⟨_, ⟨zs.length, Nat.le_refl _, rfl⟩, ?_⟩⟩
              rw [show zs.length = zs.length - 1 + 1 by omega, upt_succ, sideAt_last hz1]
              exact hJx3
          · go_simp
            refine hK _ _ ?_
            clear hK K
            refine wpAnyIn_ready (rs := [4]) (by kernel_rfl) (by simp) ?_
            refine AllReadyIn.cons rfl (fun K hK => ?_) AllReadyIn.nil
            go_simp
            refine hK _ _ ?_
            clear hK K
            refine wpAnyIn_ready (rs := [8]) (by kernel_rfl) (by simp) ?_
            refine AllReadyIn.cons rfl (fun K hK => ?_) AllReadyIn.nil
            go_simp
            (try rw [hyl])
            first | refine ⟨fun _ => by omega, hR.mono ?_⟩ | refine hR.mono ?_
            rintro e W3 (⟨rfl, hJ3, hk3⟩ | ⟨rfl, hJx3⟩)
            · refine hK _ _ ?_
              clear hK K
              refine wpAnyIn_done (by kernel_rfl) ?_ _
              gi_wp2
              go_end0
              refine ⟨⟨_, rfl⟩, .inl ⟨_, rfl, ?_⟩⟩
              rw [show zs.length = zs.length - 1 + 1 by omega, upt_succ, sideAt_last hz1]
              exact hJ3
            · refine hK _ _ ?_
              clear hK K
              refine wpAnyIn_done (by kernel_rfl) ?_ _
              gi_wp2
              go_end0
              refine ⟨⟨_, rfl⟩, .inr ⟨_, ⟨zs.length, Nat.le_refl _, rfl⟩, ?_⟩⟩
              rw [show zs.length = zs.length - 1 + 1 by omega, upt_succ, sideAt_last hz1]
              exact hJx3
        · go_simp
          refine hK _ _ ?_
          clear hK K
          refine wpAnyIn_ready (rs := [1]) (by kernel_rfl) (by simp) ?_
          refine AllReadyIn.cons rfl (fun K hK => ?_) AllReadyIn.nil
          go_simp
          refine hK _ _ ?_
          clear hK K
          refine wpAnyIn_take (i := 3) (v := .pointer (some ⟨b, off + (zs.length - 1) * 2, none⟩)) hro rfl (by kernel_rfl) (by kernel_rfl) (by kernel_rfl) (fun _ _ _ h => h) ⟨Or.inl ⟨by rfl, by (intro w; go_simp; (try rw [htn]); (try (intro h; omega)))⟩, fun _ => rfl⟩ ?_
          refine wpAnyIn_ready (rs := [4]) (by kernel_rfl) (by simp) ?_
          refine AllReadyIn.cons rfl (fun K hK => ?_) AllReadyIn.nil
          go_simp
          refine hK _ _ ?_
          clear hK K
          refine wpAnyIn_ready (rs := [8]) (by kernel_rfl) (by simp) ?_
          refine AllReadyIn.cons rfl (fun K hK => ?_) AllReadyIn.nil
          go_simp
          (try rw [hyl])
          first | refine ⟨fun _ => by omega, hR.mono ?_⟩ | refine hR.mono ?_
          rintro e W3 (⟨rfl, hJ3, hk3⟩ | ⟨rfl, hJx3⟩)
          · refine hK _ _ ?_
            clear hK K
            refine wpAnyIn_done (by kernel_rfl) ?_ _
            gi_wp2
            go_end0
            refine ⟨⟨_, rfl⟩, .inl ⟨_, rfl, ?_⟩⟩
            rw [show zs.length = zs.length - 1 + 1 by omega, upt_succ, sideAt_last hz1]
            exact hJ3
          · refine hK _ _ ?_
            clear hK K
            refine wpAnyIn_done (by kernel_rfl) ?_ _
            gi_wp2
            go_end0
            refine ⟨⟨_, rfl⟩, .inr ⟨_, ⟨zs.length, Nat.le_refl _, rfl⟩, ?_⟩⟩
            rw [show zs.length = zs.length - 1 + 1 by omega, upt_succ, sideAt_last hz1]
            exact hJx3
set_option maxHeartbeats 1000000 in
theorem sides_stops (F : Fence) (n : Nat) (h55 : F.fn 88) (hro : F.round = none) (hn : 1 ≤ n) (Bs n₀ b off cap : Nat) (zs : List S23) (hz1 : 1 ≤ zs.length) (hz : zs.length ≤ 1099511627776) (w : World)
    (hBl : Bs < w.heap.size) (hb : b < n₀) (hn₀ : n₀ ≤ w.heap.size) (hc : w.cell? ⟨Bs, 0, none⟩ = some (.slice (some ⟨b, off, none⟩) zs.length cap)) (hI : PtsAt w b off zs) :
    SeqStopsK F n Try.prog 88 #[.pointer (some ⟨Bs, 0, none⟩)] encS (KpS n₀ Bs) (fun ys => ys = upt zs zs.length) (fun pre => ∃ k, k ≤ zs.length ∧ pre = upt zs k) zs.length w := fun l J Jx W hW hJ _ hY h0 =>
  sides1_in F n h55 hro hn l Bs n₀ b off cap zs hz1 hz J Jx W hJ hY ((hW.cell (p := ⟨Bs, 0, none⟩) (by show Bs < _; omega)).trans hc) (Nat.lt_of_lt_of_le hBl hW.size) hb (Nat.le_trans hn₀ hW.size) (hI.below (n₀ := w.heap.size) (by omega) hW) h0
end Go.Proofs.Ytjalkjeldlchoaa.X
end
section
set_option linter.unusedSectionVars false
set_option linter.unusedSimpArgs false
set_option linter.unusedVariables false
namespace Go.Proofs.Ytjalkjeldlchoaa.X
open Go Go.RowKit Go.Proofs.YtjalkjeldlchoaaW.PrintWords Go.Proofs.YtjalkjeldlchoaaW.PrintLast Go.Proofs.Ytjalkjeldlchoaa.Ex
set_option linter.unusedVariables false
set_option linter.unusedSimpArgs false
theorem L2_flat {ν : Nu} : ∀ {l : List Value}, l.all flat = true → L2 (VR ν) l l
  | [], _ => .nil
  | v :: l, h => by
    simp only [List.all_cons, Bool.and_eq_true] at h
    exact .cons ((flat_VR h.1 v).2 rfl) (L2_flat h.2)
theorem calls_flat {f : FuncId} {args : List Value} {v : Value} (ha : args.all flat = true) (hv : flat v = true) (h : CallSpec Try.prog f args [] ⟨v, [], []⟩) (w : World) : Calls Try.prog f args.toArray w fun e w' => e = .returned v ∧ Below w.heap.size w w' :=
  h.below (ν := fun _ => none) hv (L2_flat ha) (rep_none w)
def geo_turn.f (a b c d e f : Int) : Option Int := some (turnV a b c d e f)
theorem turn_some (a b c d e f : Int) : geo_turn.f a b c d e f = some (turnV a b c d e f) := rfl
theorem geo_turn.calls (a0_0 : Int) (a0_1 : Int) (a1_0 : Int) (a1_1 : Int) (a2_0 : Int) (a2_1 : Int) (r : Int) (w : World) (h : geo_turn.f a0_0 a0_1 a1_0 a1_1 a2_0 a2_1 = some r) :
    Calls Try.prog 70 #[.agg #[.int .i64 a0_0, .int .i64 a0_1], .agg #[.int .i64 a1_0, .int .i64 a1_1], .agg #[.int .i64 a2_0, .int .i64 a2_1]] w fun e w' => e = .returned (.int .i64 r) ∧ Below w.heap.size w w' := by
  obtain rfl := Option.some.inj h
  exact calls_flat (by rfl) (by rfl) (turn_done _ _ _ _ _ _) w
def geo_over.f (a b c d : Int) : Option Bool := some (overV a b c d)
theorem over_some (a b c d : Int) : geo_over.f a b c d = some (overV a b c d) := rfl
theorem geo_over.calls (a0 : Int) (a1 : Int) (a2 : Int) (a3 : Int) (r : Bool) (w : World) (h : geo_over.f a0 a1 a2 a3 = some r) :
    Calls Try.prog 71 #[.int .i64 a0, .int .i64 a1, .int .i64 a2, .int .i64 a3] w fun e w' => e = .returned (.bool r) ∧ Below w.heap.size w w' := by
  obtain rfl := Option.some.inj h
  exact calls_flat (by rfl) (by rfl) (over_done _ _ _ _) w
theorem pc_flat (l : List S23) : (pc l).all flat1 = true := by
  rw [List.all_eq_true]
  intro x hx
  obtain ⟨p, _, hp⟩ := List.mem_flatMap.1 hx
  simp only [List.mem_cons, List.not_mem_nil, or_false] at hp
  rcases hp with rfl | rfl <;> rfl
theorem pc_get (l : List S23) (k : Nat) (hk : k < l.length) : (pc l)[k * 2]? = some (.int .i64 (pt l k).f0) ∧ (pc l)[k * 2 + 1]? = some (.int .i64 (pt l k).f1) := by
  have h := pc_two l k hk
  constructor
  · have e := congrArg (fun x => x[0]?) h
    simpa [List.getElem?_drop] using e
  · have e := congrArg (fun x => x[1]?) h
    simpa [List.getElem?_drop] using e
theorem pc_cell {W : World} {b off : Nat} {l : List S23} (h : PtsAt W b off l) (i : Nat) (v : Value) (hi : (pc l)[i]? = some v) : W.cell? ⟨b, off + i, none⟩ = some v := by
  have hl := (List.getElem?_eq_some_iff.1 hi).1
  rw [pc_len] at hl
  rcases Nat.mod_two_eq_zero_or_one i with e | e
  · obtain ⟨k, rfl⟩ : ∃ k, i = k * 2 := ⟨i / 2, by omega⟩
    rw [(pc_get l k (by omega)).1] at hi
    cases hi
    exact (h k (by omega)).1
  · obtain ⟨k, rfl⟩ : ∃ k, i = k * 2 + 1 := ⟨i / 2, by omega⟩
    rw [(pc_get l k (by omega)).2] at hi
    cases hi
    rw [← Nat.add_assoc]
    exact (h k (by omega)).2
theorem pts_stand {W : World} {b off c : Nat} {l : List S23} (hb : b < W.heap.size) (hc : l.length ≤ c) (h : PtsAt W b off l) : ∃ ν, VR ν (sl0 l.length l.length) (.slice (some ⟨b, off, none⟩) l.length c) ∧ Rep Try.prog ν [.ro 39 (pc l)] W := by
  refine ⟨fun id => if id = 0 then some ⟨b, off, c * 2, 2⟩ else none, ⟨_, c, rfl, hc, hc, fun _ => ⟨_, rfl, rfl, rfl, by show 0 + c * 2 = c * 2; omega⟩⟩, fun id hid => ?_, fun id => ?_, fun i j M K hij hi => ?_⟩
  · show (if id = 0 then _ else _) = none
    rw [if_neg (by simp at hid; omega)]
  · cases id with
    | succ id => exact trivial
    | zero =>
      refine ⟨_, rfl, (by kernel_rfl), hb, pc l, CR.of ((flat_L2 (pc_flat l)).2 rfl) (by rw [pc_flat]; simp), fun i v hi => pc_cell h i v hi⟩
  · cases i <;> cases hi
def geo_tangled.f (k : Nat) (l0 : List S23) : Option Bool := if 3 ≤ l0.length ∧ l0.length ≤ 64 then some (tangledV l0) else none
theorem geo_tangled.mono : ∀ a0 k, LeO (geo_tangled.f k a0) (geo_tangled.f (k + 1) a0) := fun _ _ => LeO.refl _
theorem geo_tangled.calls (k : Nat) (A0 : Option Addr) (c0 : Nat) (l0 : List (S23)) (r : Bool) (w : World) (hr0 : Kd.C k23 w A0 l0.length l0) (hc0 : l0.length ≤ c0) (h : geo_tangled.f k l0 = some r) :
    Calls Try.prog 75 #[.slice A0 l0.length c0] w fun e w' => e = .returned (.bool r) ∧ Below w.heap.size w w' := by
  unfold geo_tangled.f at h
  split at h
  · obtain rfl := Option.some.inj h
    obtain ⟨b, off, rfl, hb, hp⟩ := pts_of hr0 (by omega)
    obtain ⟨ν, hv, hr⟩ := pts_stand hb hc0 hp
    exact CallSpec.below (args' := [.slice (some ⟨b, off, none⟩) l0.length c0]) (by rfl) (tangled_done (c := l0.length) (by omega) (by omega)) (.cons hv .nil) hr
  · cases h
end Go.Proofs.Ytjalkjeldlchoaa.X
end
section
set_option linter.unusedSectionVars false
set_option linter.unusedSimpArgs false
set_option linter.unusedVariables false
namespace Go.Proofs.Ytjalkjeldlchoaa.X
open Go.RowKit Go.Shelf Go.Proofs.YtjalkjeldlchoaaW.PrintWords Go.Proofs.YtjalkjeldlchoaaW.PrintLast Go.Proofs.YtjalkjeldlchoaaW.PrintMore Go.Proofs.Ytjalkjeldlchoaa.HKit
attribute [local go_sem] Oper.semAt_some
set_option linter.unusedVariables false
set_option linter.unusedSimpArgs false
def Boxed2 (W : World) (B : Nat) (p q : Int) : Prop := W.heap[B]? = some (.cells #[.int .i64 p, .int .i64 q] 39 (0, 0))
theorem Boxed2.new (W : World) (p q : Int) : Boxed2 (W.alloc (.cells #[.int .i64 p, .int .i64 q] 39)) W.heap.size p q := World.alloc_heap_new W _
theorem Boxed2.lt {W : World} {B : Nat} {p q : Int} (h : Boxed2 W B p q) : B < W.heap.size := (Array.getElem?_eq_some_iff.1 h).1
theorem Boxed2.alloc {W : World} {B : Nat} {p q : Int} (h : Boxed2 W B p q) (o : Obj) : Boxed2 (W.alloc o) B p q := (Below.heap_alloc _ _ _ h.lt).trans h
theorem Boxed2.below {W W' : World} {B n : Nat} {p q : Int} (h : Boxed2 W B p q) (hb : Below n W W') (hn : B < n) : Boxed2 W' B p q := (hb.block B hn).trans h
theorem Boxed2.c0 {W : World} {B : Nat} {p q : Int} (h : Boxed2 W B p q) : W.cell? ⟨B, 0, none⟩ = some (.int .i64 p) := by simp [World.cell?, show W.heap[B]? = _ from h]
theorem Boxed2.c1 {W : World} {B : Nat} {p q : Int} (h : Boxed2 W B p q) : W.cell? ⟨B, 1, none⟩ = some (.int .i64 q) := by simp [World.cell?, show W.heap[B]? = _ from h]
theorem Boxed2.set {W : World} {B : Nat} {p q : Int} (h : Boxed2 W B p q) {g j : Nat} (hne : B ≠ g) (v : Value) : Boxed2 (W.setCell ⟨g, j, none⟩ v) B p q := (Below.heap_setCell _ _ _ _ (by exact hne)).trans h
theorem Boxed.below {W W' : World} {B n : Nat} {t : TypeId} {v : Value} (h : Boxed W B t v) (hb : Below n W W') (hn : B < n) : Boxed W' B t v := (hb.block B hn).trans h
theorem one_point {W : World} {B : Nat} {p q : Int} (h : Boxed2 W B p q) : Kd.C k23 W (some ⟨B, 0, none⟩) ([(⟨p, q⟩ : S23)] : List S23).length [(⟨p, q⟩ : S23)] := by
  refine ⟨rfl, by simp, fun _ => ⟨_, rfl, fun j x hj => ?_⟩⟩
  match j, hj with
  | 0, hj =>
    obtain rfl : (⟨p, q⟩ : S23) = x := by simpa using hj
    refine ⟨[.int .i64 p, .int .i64 q], rfl, k23_mk W _, fun i u hi => ?_⟩
    match i, hi with
    | 0, hi =>
      obtain rfl : Value.int .i64 p = u := by simpa using hi
      exact h.c0
    | 1, hi =>
      obtain rfl : Value.int .i64 q = u := by simpa using hi
      exact h.c1
    | i + 2, hi => simp at hi
  | j + 1, hj => simp at hj
/-- What a round of Side knows of its boxes. -/
structure SideSt (W : World) (g rb : Nat) (p q r : Int) (B1 B2 : Nat) (x : S23 × S23) : Prop where
  bP : Boxed2 W g p q
  bR : Boxed W (g + 1) 3 (.int .i64 0)
  bE : Boxed W (g + 1 + 1) 27 (.int .i64 0)
  bW : Boxed W rb 3 (.int .i64 r)
  b1 : Boxed2 W B1 x.1.f0 x.1.f1
  b2 : Boxed2 W B2 x.2.f0 x.2.f1
theorem SideSt.below {W W' : World} {g rb : Nat} {p q r : Int} {B1 B2 : Nat} {x : S23 × S23} (h : SideSt W g rb p q r B1 B2 x) (hb : Below W.heap.size W W') : SideSt W' g rb p q r B1 B2 x :=
  ⟨h.bP.below hb h.bP.lt, Boxed.below h.bR hb h.bR.lt, Boxed.below h.bE hb h.bE.lt, Boxed.below h.bW hb h.bW.lt, h.b1.below hb h.b1.lt, h.b2.below hb h.b2.lt⟩
def SideI (w : World) (rb : Nat) (p q : Int) (pre : List (S23 × S23)) (W : World) : Prop :=
  (Aside0 (pre.any (onSide p q) = false) ∧ Boxed W rb 3 (.int .i64 (winds p q pre)) ∧ Boxed2 W w.heap.size p q ∧ Boxed W (w.heap.size + 1) 3 (.int .i64 0) ∧ Boxed W (w.heap.size + 1 + 1) 27 (.int .i64 0)) ∧ Below w.heap.size w W
def SideX (w : World) (p q : Int) (c : Code) (pre : List (S23 × S23)) (W : World) : Prop :=
  (c = .ret ∧ Aside0 (pre.any (onSide p q) = true) ∧ Boxed W (w.heap.size + 1) 3 (.int .i64 0) ∧ Boxed W (w.heap.size + 1 + 1) 27 (.int .i64 0)) ∧ Below w.heap.size w W
theorem keepsO_of_below {W W' : World} (h : Below W.heap.size W W') : KeepsOthers W W' :=
  ⟨h.size, fun k o hk _ => (h.block k (Array.getElem?_eq_some_iff.1 hk).1).trans hk⟩
section
variable {w W W' : World} {g rb B Bs B1 B2 : Nat} {p q : Int} {pre : List (S23 × S23)} {x : S23 × S23} {a : Act}
theorem side_stay (st : SideSt W' w.heap.size rb p q (winds p q pre) B1 B2 x) (hB : Below w.heap.size w W') (hW : Below W.heap.size W W') (hs : w.heap.size ≤ W.heap.size) (ht : pre.any (onSide p q) = false)
    (h1 : onSide p q x = false) (h2 : wind p q (winds p q pre) x = winds p q pre) : ownPostG B (KpS w.heap.size Bs) (SideI w rb p q) (SideX w p q) (pre ++ [x]) W .normal a W' :=
  ⟨(keepsO_of_below hW).from _, ⟨hW.mono hs, fun hb => hW.block _ hb⟩, ⟨⟨by rw [List.any_append, ht]; simp [h1]⟩, by rw [winds_snoc, h2]; exact st.bW, st.bP, st.bR, st.bE⟩, hB⟩
theorem side_step {r : Int} (st : SideSt W' w.heap.size rb p q (winds p q pre) B1 B2 x) (hB : Below w.heap.size w W') (hW : Below W.heap.size W W') (hs : w.heap.size ≤ W.heap.size) (ht : pre.any (onSide p q) = false)
    (hr0 : w.heap.size + 1 + 1 < rb) (hrB : rb ≠ Bs) (h1 : onSide p q x = false) (h2 : wind p q (winds p q pre) x = r) : ownPostG B (KpS w.heap.size Bs) (SideI w rb p q) (SideX w p q) (pre ++ [x]) W .normal a (W'.setCell ⟨rb, 0, none⟩ (.int .i64 r)) :=
  ⟨((keepsO_of_below hW).trans (KeepsOthers.setCell _ _ _)).from _, ⟨(hW.mono hs).setCell (p := ⟨rb, 0, none⟩) (by show w.heap.size ≤ rb; omega) _, fun hb => (Below.heap_setCell _ _ _ _ (by show Bs ≠ rb; omega)).trans (hW.block _ hb)⟩,
    ⟨⟨by rw [List.any_append, ht]; simp [h1]⟩, by rw [winds_snoc, h2]; exact st.bW.set _, st.bP.set (by omega) _, st.bR.other (by omega) _, st.bE.other (by omega) _⟩, hB.setCell (p := ⟨rb, 0, none⟩) (by show w.heap.size ≤ rb; omega) _⟩
theorem side_leave (st : SideSt W' w.heap.size rb p q (winds p q pre) B1 B2 x) (hB : Below w.heap.size w W') (hW : Below W.heap.size W W') (h1 : onSide p q x = true) :
    ownPostG B (KpS w.heap.size Bs) (SideI w rb p q) (SideX w p q) (pre ++ [x]) W .ret a ((W'.setCell ⟨w.heap.size + 1, 0, none⟩ (.int .i64 0)).setCell ⟨w.heap.size + 1 + 1, 0, none⟩ (.int .i64 0)) :=
  ⟨(((keepsO_of_below hW).trans (KeepsOthers.setCell _ _ _)).trans (KeepsOthers.setCell _ _ _)).from _, ⟨rfl, ⟨by rw [List.any_append]; simp [h1]⟩, (st.bR.set _).other (by omega) _, (st.bE.other (by omega) _).set _⟩,
    (hB.setCell (p := ⟨w.heap.size + 1, 0, none⟩) (by show w.heap.size ≤ w.heap.size + 1; omega) _).setCell (p := ⟨w.heap.size + 1 + 1, 0, none⟩) (by show w.heap.size ≤ w.heap.size + 1 + 1; omega) _⟩
end
end Go.Proofs.Ytjalkjeldlchoaa.X
end
section
set_option linter.unusedSectionVars false
set_option linter.unusedSimpArgs false
set_option linter.unusedVariables false
namespace Go.Proofs.Ytjalkjeldlchoaa.X
open Go.RowKit Go.Shelf Go.Proofs.YtjalkjeldlchoaaW.PrintWords Go.Proofs.YtjalkjeldlchoaaW.PrintLast Go.Proofs.YtjalkjeldlchoaaW.PrintMore Go.Proofs.Ytjalkjeldlchoaa.HKit
attribute [local go_sem] Oper.semAt_some
set_option linter.unusedVariables false
set_option linter.unusedSimpArgs false
theorem grownBy_keepsC {X Y : World} {row : Option Nat} (hg : X.grownBy Y row) (hr : ∀ r, row = some r → ∃ o : Obj, X.heap[r]? = some o ∧ o.isCells = false) {B : Nat} {cs : Array Value} {t : TypeId} {p : Nat × Nat} (h : X.heap[B]? = some (.cells cs t p)) : Y.heap[B]? = X.heap[B]? :=
  hg.block B (Array.getElem?_eq_some_iff.1 h).1 (fun e => by obtain ⟨o, ho, hc⟩ := hr B e.symm; rw [h] at ho; cases ho; cases hc)
theorem upt_any_le {zs : List S23} {k n : Nat} {p : S23 × S23 → Bool} (h : k ≤ n) (hp : (upt zs k).any p = true) : (upt zs n).any p = true := by
  obtain ⟨x, hx, hpx⟩ := List.any_eq_true.1 hp
  refine List.any_eq_true.2 ⟨x, ?_, hpx⟩
  obtain ⟨i, hi, rfl⟩ := List.mem_map.1 hx
  exact List.mem_map.2 ⟨i, List.mem_range.2 (by have := List.mem_range.1 hi; omega), rfl⟩
def geo_Simple.f (k : Nat) (l : List S23) : Option Int :=
  if l.length < 3 then some 90 else if 64 < l.length then some 4 else (geo_fits.f l).bind fun b => if b = true then (if (upt l l.length).any twin then some 91 else (geo_tangled.f k l).bind fun t => if t = true then some 92 else some 0) else some 5
theorem geo_Simple.mono : ∀ a0 k, LeO (geo_Simple.f k a0) (geo_Simple.f (k + 1) a0) := by
  intro a0 k
  unfold geo_Simple.f
  refine LeO.ite (LeO.refl _) (LeO.ite (LeO.refl _) (LeO.bind (LeO.refl _) fun b => LeO.ite (LeO.ite (LeO.refl _) (LeO.bind (geo_tangled.mono _ _) fun t => LeO.refl _)) (LeO.refl _)))
set_option maxRecDepth 100000 in
set_option maxHeartbeats 4000000 in
theorem geo_Simple.calls (k : Nat) (A0 : Option Addr) (c0 : Nat) (l0 : List S23) (r : Int) (w : World) (hr0 : Kd.C k23 w A0 l0.length l0) (hc0 : l0.length ≤ c0) (h : geo_Simple.f k l0 = some r) :
    Calls Try.prog 46 #[.slice A0 l0.length c0] w fun e w' => e = .returned (.int .i64 r) ∧ Below w.heap.size w w' := by
  have HR0 := Aside0.mk hr0
  have HC0 := Aside0.mk hc0
  have H := Aside0.mk h
  clear hr0 hc0 h
  refine (callsIn_wide (n := 9)).1 ?_
  refine callsIn_of_wp_marks Try.func46 rfl trivial ?_ rfl
  simp only [Try.ntmps46, List.size_toArray, List.length_cons, List.length_nil, Nat.reduceAdd, Nat.reduceSub, Array.replicate_succ, Array.replicate_zero, List.push_toArray, List.append_toArray, List.nil_append, List.cons_append]
  by_cases c1 : l0.length < 3
  · have c1b : decide ((l0.length : Int) < 3) = true := decide_eq_true (by omega)
    have hr := H.out
    unfold geo_Simple.f at hr
    rw [if_pos c1] at hr
    obtain rfl := Option.some.inj hr
    gi_wp2
    refine ⟨.int .i64 90, ?_, rfl, (Below.refl _ w).alloc (Nat.le_refl _) _⟩
    simp [results, Try.f46, go_sem]
  · have c1b : decide ((l0.length : Int) < 3) = false := decide_eq_false (by omega)
    by_cases c2 : 64 < l0.length
    · have c2b : decide ((l0.length : Int) > 64) = true := decide_eq_true (by omega)
      have hr := H.out
      unfold geo_Simple.f at hr
      rw [if_neg c1, if_pos c2] at hr
      obtain rfl := Option.some.inj hr
      gi_wp2
      refine ⟨.int .i64 4, ?_, rfl, (Below.refl _ w).alloc (Nat.le_refl _) _⟩
      simp [results, Try.f46, go_sem]
    · have c2b : decide ((l0.length : Int) > 64) = false := decide_eq_false (by omega)
      have hr := H.out
      unfold geo_Simple.f at hr
      rw [if_neg c1, if_neg c2] at hr
      obtain ⟨fb, hfb, hr⟩ := Option.bind_eq_some_iff.mp hr
      have HF := Aside0.mk hfb
      have HR := Aside0.mk hr
      clear hfb hr H
      cases fb with
      | false =>
        have hr := HR.out
        simp only [Bool.false_eq_true, if_false, Option.some.injEq] at hr
        subst hr
        gi_wp2_with (refine ⟨trivial, ?_⟩; gi_at_call 68; refine (callsIn_wide.2 (geo_fits.calls A0 c0 l0 false _ (Kd.C_below HR0.out ((Below.refl _ w).alloc (Nat.le_refl _) _)) HC0.out HF.out)).mono ?_; rintro e w1 ⟨rfl, hb1⟩; have bR : Boxed w1 w.heap.size 27 (.int .i64 0) := (hb1.block _ (by simp)).trans (Boxed.new w 27 _); have cR := bR.cell; have fR := bR.frozen)
        refine ⟨.int .i64 5, ?_, rfl, ?_⟩
        · have := (bR.set (.int .i64 5)).cell
          simp [results, Try.f46, go_sem, this]
        · exact (((Below.refl _ w).alloc (Nat.le_refl _) _).trans (hb1.mono (by simp))).setCell (p := ⟨w.heap.size, 0, none⟩) (Nat.le_refl _) _
      | true =>
        have hr := HR.out
        simp only [if_true] at hr
        have HR := Aside0.mk hr
        clear hr
        gi_wp2_with (first | (refine ⟨trivial, ?_⟩; gi_at_call 68; refine (callsIn_wide.2 (geo_fits.calls A0 c0 l0 true _ (Kd.C_below HR0.out ((Below.refl _ w).alloc (Nat.le_refl _) _)) HC0.out HF.out)).mono ?_; rintro e w1 ⟨rfl, hb1⟩; have bR : Boxed w1 w.heap.size 27 (.int .i64 0) := (hb1.block _ (by simp)).trans (Boxed.new w 27 _); have cR := bR.cell; have fR := bR.frozen) | (refine ⟨trivial, ?_⟩; gi_at_call 69; refine (sides_in Fence.wide _ trivial rfl _ _ _ _).mono ?_; rintro e w2 ⟨rfl, rfl⟩))
        obtain ⟨b, off, rfl, hb, hp⟩ := pts_of HR0.out (by omega)
        have hB1 : Below w.heap.size w w1 := ((Below.refl _ w).alloc (Nat.le_refl _) _).trans (hb1.mono (by simp))
        have hs1 : w.heap.size + 1 ≤ w1.heap.size := by have := hb1.size; simp at this; omega
        have bS := Boxed.new w1 22 (.slice (some ⟨b, off, none⟩) l0.length c0)
        have bR2 := bR.alloc (.cells #[.slice (some ⟨b, off, none⟩) l0.length c0] 22)
        have hB2 : Below w.heap.size w (w1.alloc (.cells #[.slice (some ⟨b, off, none⟩) l0.length c0] 22)) := hB1.alloc (by omega) _
        have hz2 : (w1.alloc (.cells #[.slice (some ⟨b, off, none⟩) l0.length c0] 22)).heap.size = w1.heap.size + 1 := by simp
        obtain ⟨w2, hw2⟩ : ∃ w2, w1.alloc (.cells #[.slice (some ⟨b, off, none⟩) l0.length c0] 22) = w2 := ⟨_, rfl⟩
        rw [hw2] at bS bR2 hB2 hz2 ⊢
        refine wpIn_rangeFunc_ownH rfl (by decide) (gf := 88) (lb := #[.pointer (some ⟨w1.heap.size, 0, none⟩)]) rfl trivial (enters_of Try.func88 (by kernel_rfl) rfl)
          (sides_stops Fence.wide 8 trivial rfl (by decide) w1.heap.size w.heap.size b off c0 l0 (by omega) (by omega) w2 (by omega) hb (by omega) bS.cell (hp.below hb hB2)) (fun h k => h.trans k) (KpS.put (by omega) (by omega)) (Below.refl _ _) (fun _ => rfl)
          (fun pre W => (Aside0 (pre.any twin = false) ∧ Boxed W w.heap.size 27 (.int .i64 0)) ∧ Below w.heap.size w W)
          (fun c pre W => (c = .ret ∧ Aside0 (pre.any twin = true) ∧ Boxed W w.heap.size 27 (.int .i64 91)) ∧ Below w.heap.size w W)
          (OwnFrom.and (Own.from (fun s A B row hs hg hr => ⟨hs.1, boxed_own w.heap.size 27 (fun (_ : Unit) => Value.int .i64 0) () A B row hs.2 hg hr⟩) _) (ownFrom_below (Nat.le_refl _) (by omega)))
          (fun c => OwnFrom.and (Own.from (fun s A B row hs hg hr => ⟨hs.1, hs.2.1, boxed_own w.heap.size 27 (fun (_ : Unit) => Value.int .i64 91) () A B row hs.2.2 hg hr⟩) _) (ownFrom_below (Nat.le_refl _) (by omega)))
          ⟨⟨⟨rfl⟩, bR2⟩, hB2⟩
          (fun x a' W => ∃ B1 B2, w.heap.size ≠ B1 ∧ w.heap.size ≠ B2 ∧ W.heap[B1]? = some (.cells #[.int .i64 x.1.f0, .int .i64 x.1.f1] 39 (0, 0)) ∧ W.heap[B2]? = some (.cells #[.int .i64 x.2.f0, .int .i64 x.2.f1] 39 (0, 0)) ∧ a' = { tmps := #[.slice (some ⟨b, off, none⟩) l0.length c0, undef, .pointer (some ⟨w.heap.size, 0, none⟩), .pointer (some ⟨B1, 0, none⟩), .pointer (some ⟨B2, 0, none⟩), .bool false, .slice (some ⟨b, off, none⟩) l0.length c0, .int .i64 l0.length, .bool false, .bool false, .slice (some ⟨b, off, none⟩) l0.length c0, .int .i64 l0.length, .bool false, .bool false, .slice (some ⟨b, off, none⟩) l0.length c0, .bool true, .bool false, .slice (some ⟨b, off, none⟩) l0.length c0, .func (.func 88) #[] #[.pointer (some ⟨w1.heap.size, 0, none⟩)], aggP x.1, aggP x.2, undef, undef, undef, undef, undef], defers := [] })
          (fun x a' _ X Y row hs hg hr => by
            obtain ⟨B1, B2, h1, h2, h3, h4, h5⟩ := hs
            exact ⟨B1, B2, h1, h2, (grownBy_keepsC hg (fun r e => (hr r e).2) h3).trans h3, (grownBy_keepsC hg (fun r e => (hr r e).2) h4).trans h4, h5⟩)
          ?assign ?body ?done ?stop
        case assign =>
          rintro l pre x W K ⟨⟨ht, bR1⟩, hBW⟩ hK
          dsimp only [encS, aggP]
          gi_wp2
          exact hK _ _ (((KeepsOthers.alloc _ _).trans (KeepsOthers.alloc _ _)).from _) ((KpS.alloc hBW.size _).trans (KpS.alloc (by have := hBW.size; simp; omega) _)) ⟨⟨ht, (bR1.alloc _).alloc _⟩, (hBW.alloc hBW.size _).alloc (by have := hBW.size; simp; omega) _⟩
            ⟨W.heap.size, W.heap.size + 1, Nat.ne_of_lt bR1.lt, by have := bR1.lt; omega, (Below.heap_alloc _ _ _ (by simp)).trans (World.alloc_heap_new W _), by have := World.alloc_heap_new (W.alloc (.cells #[.int .i64 x.1.f0, .int .i64 x.1.f1] 39)) (.cells #[.int .i64 x.2.f0, .int .i64 x.2.f1] 39); rwa [World.size_alloc] at this, rfl⟩
        case body =>
          rintro l pre x a' W hl hr2 ⟨⟨ht, bR1⟩, hBW⟩ ⟨B1, B2, hn1, hn2, h3, h4, rfl⟩ hlt
          have x0 : W.cell? ⟨B1, 0, none⟩ = some (.int .i64 x.1.f0) := by simp [World.cell?, h3]
          have x1 : W.cell? ⟨B1, 1, none⟩ = some (.int .i64 x.1.f1) := by simp [World.cell?, h3]
          have x2 : W.cell? ⟨B2, 0, none⟩ = some (.int .i64 x.2.f0) := by simp [World.cell?, h4]
          have x3 : W.cell? ⟨B2, 1, none⟩ = some (.int .i64 x.2.f1) := by simp [World.cell?, h4]
          have cR1 := bR1.cell
          have fR1 := bR1.frozen
          gi_wp2
          · rename_i e1 e2
            exact ⟨(KeepsOthers.setCell _ _ _).from _, ⟨rfl, ⟨by rw [List.any_append]; simp [twin, e1, e2]⟩, bR1.set _⟩, hBW.setCell (p := ⟨w.heap.size, 0, none⟩) (Nat.le_refl _) _⟩
          · rename_i e1 e2
            exact ⟨KeepsFrom.refl _ _, KpS.refl _ _ _, ⟨⟨by rw [List.any_append, ht.out]; simp [twin, e2]⟩, bR1⟩, hBW⟩
          · rename_i e1
            exact ⟨KeepsFrom.refl _ _, KpS.refl _ _ _, ⟨⟨by rw [List.any_append, ht.out]; simp [twin, e1]⟩, bR1⟩, hBW⟩
        case done =>
          rintro D ys W hD rfl ⟨⟨ht, bR1⟩, hBW⟩ hK
          have hr := HR.out
          simp only [ht.out, Bool.false_eq_true, if_false] at hr
          obtain ⟨tb, htb, hr⟩ := Option.bind_eq_some_iff.mp hr
          have HT := Aside0.mk htb
          have HR' := Aside0.mk hr
          clear htb hr
          gi_wp2_with (refine ⟨trivial, ?_⟩; gi_at_call 75; refine (callsIn_wide.2 (geo_tangled.calls k _ c0 l0 tb _ (Kd.C_below HR0.out hBW) HC0.out HT.out)).mono ?_; rintro e w3 ⟨rfl, hb3⟩; have bR3 : Boxed w3 w.heap.size 27 (.int .i64 0) := (hb3.block _ bR1.lt).trans bR1; have cR3 := bR3.cell; have fR3 := bR3.frozen; have hK3 : w3.heap[D]? = some (.deferred (some [])) := (hb3.block _ (Array.getElem?_eq_some_iff.1 hK).1).trans hK)
          · have hr := HR'.out
            rename_i htb_
            rw [htb_] at hr
            simp only [if_true, Option.some.injEq] at hr
            subst hr
            have hK' := (KeepsOthers.setCell w3 ⟨w.heap.size, 0, none⟩ (.int .i64 92)).same D _ hK3 rfl
            refine ⟨by simp, .inl ⟨_, _, rfl, run_takeDeferred hK', ?_⟩⟩
            have hc5 := cell_kept (bR3.set (.int .i64 92)).cell (grownBy_putObj' _ D (.deferred none)) (fun r e => by cases e; exact ⟨_, hK', rfl⟩)
            refine ⟨.int .i64 92, ?_, rfl, ((hBW.trans (hb3.mono hBW.size)).setCell (p := ⟨w.heap.size, 0, none⟩) (Nat.le_refl _) _).trans (belowK_b (w := w) (Nat.le_refl _) _ D _ _ (by omega) hK' rfl rfl)⟩
            simp [results, Try.f46, go_sem, hc5]
          · have hr := HR'.out
            rename_i htb_
            rw [htb_] at hr
            simp only [Bool.false_eq_true, if_false, Option.some.injEq] at hr
            subst hr
            have hK' := (KeepsOthers.setCell w3 ⟨w.heap.size, 0, none⟩ (.int .i64 0)).same D _ hK3 rfl
            refine ⟨by simp, .inl ⟨_, _, rfl, run_takeDeferred hK', ?_⟩⟩
            have hc5 := cell_kept (bR3.set (.int .i64 0)).cell (grownBy_putObj' _ D (.deferred none)) (fun r e => by cases e; exact ⟨_, hK', rfl⟩)
            refine ⟨.int .i64 0, ?_, rfl, ((hBW.trans (hb3.mono hBW.size)).setCell (p := ⟨w.heap.size, 0, none⟩) (Nat.le_refl _) _).trans (belowK_b (w := w) (Nat.le_refl _) _ D _ _ (by omega) hK' rfl rfl)⟩
            simp [results, Try.f46, go_sem, hc5]
        case stop =>
          rintro D c pre W hD ⟨kk, hkk, rfl⟩ ⟨⟨rfl, ht, bR1⟩, hBW⟩ hK
          have hr := HR.out
          rw [if_pos (upt_any_le hkk ht.out)] at hr
          obtain rfl := Option.some.inj hr
          gi_wp2
          refine ⟨by simp, .inl ⟨_, _, rfl, run_takeDeferred hK, ?_⟩⟩
          have hc5 := cell_kept bR1.cell (grownBy_putObj' _ D (.deferred none)) (fun r e => by cases e; exact ⟨_, hK, rfl⟩)
          refine ⟨.int .i64 91, ?_, rfl, hBW.trans (belowK_b (w := w) (Nat.le_refl _) W D _ _ (by omega) hK rfl rfl)⟩
          simp [results, Try.f46, go_sem, hc5]
theorem simple_bound {k : Nat} {l : List S23} (h : geo_Simple.f k l = some 0) : 3 ≤ l.length ∧ l.length ≤ 64 := by
  unfold geo_Simple.f at h
  split at h
  · cases h
  · split at h
    · cases h
    · omega
end Go.Proofs.Ytjalkjeldlchoaa.X
end
section
set_option linter.unusedSectionVars false
set_option linter.unusedSimpArgs false
set_option linter.unusedVariables false
namespace Go.Proofs.Ytjalkjeldlchoaa.X
open Go.RowKit Go.Shelf Go.Proofs.YtjalkjeldlchoaaW.PrintWords Go.Proofs.YtjalkjeldlchoaaW.PrintLast Go.Proofs.YtjalkjeldlchoaaW.PrintMore Go.Proofs.Ytjalkjeldlchoaa.HKit
attribute [local go_sem] Oper.semAt_some
set_option linter.unusedVariables false
set_option linter.unusedSimpArgs false
theorem boxed2_kept {X Y : World} {row : Option Nat} (hg : X.grownBy Y row) (hr : ∀ r, row = some r → ∃ o : Obj, X.heap[r]? = some o ∧ o.isCells = false) {B : Nat} {p q : Int} (h : Boxed2 X B p q) : Boxed2 Y B p q := (grownBy_keepsC hg hr h).trans h
def geo_Side.f (k : Nat) (l : List S23) (p q : Int) : Option (Int × Int) :=
  (geo_Simple.f k l).bind fun e => if e = 0 then (geo_fits.f [(⟨p, q⟩ : S23)]).bind fun b => if b = true then some (sideV l p q, 0) else some (0, 5) else some (0, e)
theorem geo_Side.mono : ∀ a0 a1 a2 k, LeO (geo_Side.f k a0 a1 a2) (geo_Side.f (k + 1) a0 a1 a2) := by
  intro a0 a1 a2 k
  unfold geo_Side.f
  exact LeO.bind (geo_Simple.mono _ _) fun t => LeO.refl _
set_option maxRecDepth 100000 in
set_option maxHeartbeats 8000000 in
theorem geo_Side.calls (k : Nat) (A0 : Option Addr) (c0 : Nat) (l0 : List S23) (p q : Int) (r1 : Int) (r2 : Int) (w : World) (hr0 : Kd.C k23 w A0 l0.length l0) (hc0 : l0.length ≤ c0) (h : geo_Side.f k l0 p q = some (r1, r2)) :
    Calls Try.prog 34 #[.slice A0 l0.length c0, .agg #[.int .i64 p, .int .i64 q]] w fun e w' => e = .returned (.tuple #[.int .i64 r1, .int .i64 r2]) ∧ Below w.heap.size w w' := by
  have HR0 := Aside0.mk hr0
  have HC0 := Aside0.mk hc0
  unfold geo_Side.f at h
  obtain ⟨e, he, h⟩ := Option.bind_eq_some_iff.mp h
  have HE := Aside0.mk he
  have H := Aside0.mk h
  clear hr0 hc0 h he
  have bP := ((Boxed2.new w p q).alloc (.cells #[.int .i64 0] 3)).alloc (.cells #[.int .i64 0] 27)
  have bR := (Boxed.new (w.alloc (.cells #[.int .i64 p, .int .i64 q] 39)) 3 (.int .i64 0)).alloc (.cells #[.int .i64 0] 27)
  have bE := Boxed.new ((w.alloc (.cells #[.int .i64 p, .int .i64 q] 39)).alloc (.cells #[.int .i64 0] 3)) 27 (.int .i64 0)
  simp only [World.size_alloc] at bR bE
  have hBA : Below w.heap.size w (((w.alloc (.cells #[.int .i64 p, .int .i64 q] 39)).alloc (.cells #[.int .i64 0] 3)).alloc (.cells #[.int .i64 0] 27)) := (((Below.refl _ w).alloc (Nat.le_refl _) _).alloc (by simp) _).alloc (by simp; omega) _
  have hzA : (((w.alloc (.cells #[.int .i64 p, .int .i64 q] 39)).alloc (.cells #[.int .i64 0] 3)).alloc (.cells #[.int .i64 0] 27)).heap.size = w.heap.size + 3 := by simp
  obtain ⟨wA, hwA⟩ : ∃ wA, ((w.alloc (.cells #[.int .i64 p, .int .i64 q] 39)).alloc (.cells #[.int .i64 0] 3)).alloc (.cells #[.int .i64 0] 27) = wA := ⟨_, rfl⟩
  rw [hwA] at bP bR bE hBA hzA
  refine (callsIn_wide (n := 9)).1 ?_
  refine callsIn_of_wp_marks Try.func34 rfl trivial ?_ rfl
  simp only [Try.ntmps34, List.size_toArray, List.length_cons, List.length_nil, Nat.reduceAdd, Nat.reduceSub, Array.replicate_succ, Array.replicate_zero, List.push_toArray, List.append_toArray, List.nil_append, List.cons_append]
  by_cases c1 : e = 0
  · subst c1
    have hr := H.out
    simp only [if_true] at hr
    obtain ⟨fb, hfb, hr⟩ := Option.bind_eq_some_iff.mp hr
    have HFB := Aside0.mk hfb
    have H' := Aside0.mk hr
    clear hr hfb H
    have hbd := simple_bound HE.out
    cases fb with
    | false =>
      have hr := H'.out
      simp only [Bool.false_eq_true, if_false, Option.some.injEq, Prod.mk.injEq] at hr
      obtain ⟨rfl, rfl⟩ := hr
      gi_wp2_with (first | (refine ⟨trivial, ?_⟩; gi_at_call 46; (try rw [hwA]); refine (callsIn_wide.2 (geo_Simple.calls k A0 c0 l0 0 wA (Kd.C_below HR0.out hBA) HC0.out HE.out)).mono ?_; rintro e_ w1 ⟨rfl, hb1⟩; have hs1 := hb1.size; have bP1 := bP.below hb1 (by omega); have bR1 := Boxed.below bR hb1 (by omega); have bE1 := Boxed.below bE hb1 (by omega); have cp0 := bP1.c0; have cp1 := bP1.c1; have cr := bR1.cell; have fr := bR1.frozen; have ce := bE1.cell; have fe := bE1.frozen) | (refine ⟨trivial, ?_⟩; gi_at_call 68; refine (callsIn_wide.2 (geo_fits.calls _ _ [(⟨p, q⟩ : S23)] false _ (one_point (Boxed2.new w1 p q)) (Nat.le_refl _) HFB.out)).mono ?_; clear cp0 cp1 cr fr ce fe; rintro e_ w3 ⟨rfl, hb3⟩; have hs3 := hb3.size; rw [World.size_alloc] at hs3; have hb13 : Below w1.heap.size w1 w3 := ((Below.refl _ w1).alloc (Nat.le_refl _) _).trans (hb3.mono (by simp)); have bP3 := bP1.below hb13 (by omega); have bR3 := Boxed.below bR1 hb13 (by omega); have bE3 := Boxed.below bE1 hb13 (by omega); have cp0 := bP3.c0; have cp1 := bP3.c1; have cr := bR3.cell; have fr := bR3.frozen; have ce := bE3.cell; have fe := bE3.frozen))
      refine ⟨.tuple #[.int .i64 0, .int .i64 5], ?_, rfl, ?_⟩
      · have h4 := ((bR3.set (.int .i64 0)).other (B' := w.heap.size + 1 + 1) (by omega) (.int .i64 5)).cell
        have h5 := ((bE3.other (B' := w.heap.size + 1) (by omega) (.int .i64 0)).set (.int .i64 5)).cell
        simp [results, Try.f34, go_sem, h4, h5]
      · exact (((hBA.trans (hb1.mono (by omega))).trans (hb13.mono (by omega))).setCell (p := ⟨w.heap.size + 1, 0, none⟩) (by show w.heap.size ≤ w.heap.size + 1; omega) _).setCell (p := ⟨w.heap.size + 1 + 1, 0, none⟩) (by show w.heap.size ≤ w.heap.size + 1 + 1; omega) _
    | true =>
      have hr := H'.out
      simp only [if_true, Option.some.injEq, Prod.mk.injEq] at hr
      obtain ⟨hrA, rfl⟩ := hr
      have HR := Aside0.mk hrA
      clear hrA H'
      gi_wp2_with (first | (refine ⟨trivial, ?_⟩; gi_at_call 46; (try rw [hwA]); refine (callsIn_wide.2 (geo_Simple.calls k A0 c0 l0 0 wA (Kd.C_below HR0.out hBA) HC0.out HE.out)).mono ?_; rintro e_ w1 ⟨rfl, hb1⟩; have hs1 := hb1.size; have bP1 := bP.below hb1 (by omega); have bR1 := Boxed.below bR hb1 (by omega); have bE1 := Boxed.below bE hb1 (by omega); have cp0 := bP1.c0; have cp1 := bP1.c1; have cr := bR1.cell; have fr := bR1.frozen; have ce := bE1.cell; have fe := bE1.frozen) | (refine ⟨trivial, ?_⟩; gi_at_call 68; refine (callsIn_wide.2 (geo_fits.calls _ _ [(⟨p, q⟩ : S23)] true _ (one_point (Boxed2.new w1 p q)) (Nat.le_refl _) HFB.out)).mono ?_; clear cp0 cp1 cr fr ce fe; rintro e_ w3 ⟨rfl, hb3⟩; have hs3 := hb3.size; rw [World.size_alloc] at hs3; have hb13 : Below w1.heap.size w1 w3 := ((Below.refl _ w1).alloc (Nat.le_refl _) _).trans (hb3.mono (by simp)); have bP3 := bP1.below hb13 (by omega); have bR3 := Boxed.below bR1 hb13 (by omega); have bE3 := Boxed.below bE1 hb13 (by omega); have cp0 := bP3.c0; have cp1 := bP3.c1; have cr := bR3.cell; have fr := bR3.frozen; have ce := bE3.cell; have fe := bE3.frozen) | (refine ⟨trivial, ?_⟩; gi_at_call 69; refine (sides_in Fence.wide _ trivial rfl _ _ _ _).mono ?_; rintro e w2 ⟨rfl, rfl⟩))
      obtain ⟨b, off, rfl, hb, hp⟩ := pts_of HR0.out (by omega)
      have bW := (Boxed.new w3 3 (.int .i64 0)).alloc (.cells #[.slice (some ⟨b, off, none⟩) l0.length c0] 22)
      have bS := Boxed.new (w3.alloc (.cells #[.int .i64 0] 3)) 22 (.slice (some ⟨b, off, none⟩) l0.length c0)
      simp only [World.size_alloc] at bS
      have hB3 : Below w.heap.size w w3 := (hBA.trans (hb1.mono (by omega))).trans (hb13.mono (by omega))
      have hB2 : Below w.heap.size w ((w3.alloc (.cells #[.int .i64 0] 3)).alloc (.cells #[.slice (some ⟨b, off, none⟩) l0.length c0] 22)) := (hB3.alloc (by omega) _).alloc (by simp; omega) _
      have hz2 : ((w3.alloc (.cells #[.int .i64 0] 3)).alloc (.cells #[.slice (some ⟨b, off, none⟩) l0.length c0] 22)).heap.size = w3.heap.size + 2 := by simp
      have bP4 := (bP3.alloc (.cells #[.int .i64 0] 3)).alloc (.cells #[.slice (some ⟨b, off, none⟩) l0.length c0] 22)
      have bR4 := (bR3.alloc (.cells #[.int .i64 0] 3)).alloc (.cells #[.slice (some ⟨b, off, none⟩) l0.length c0] 22)
      have bE4 := (bE3.alloc (.cells #[.int .i64 0] 3)).alloc (.cells #[.slice (some ⟨b, off, none⟩) l0.length c0] 22)
      obtain ⟨w2, hw2⟩ : ∃ w2, (w3.alloc (.cells #[.int .i64 0] 3)).alloc (.cells #[.slice (some ⟨b, off, none⟩) l0.length c0] 22) = w2 := ⟨_, rfl⟩
      rw [hw2] at bW bS hB2 hz2 bP4 bR4 bE4 ⊢
      refine wpIn_rangeFunc_ownH rfl (by decide) (gf := 88) (lb := #[.pointer (some ⟨w3.heap.size + 1, 0, none⟩)]) rfl trivial (enters_of Try.func88 (by kernel_rfl) rfl)
        (sides_stops Fence.wide 8 trivial rfl (by decide) (w3.heap.size + 1) w.heap.size b off c0 l0 (by omega) (by omega) w2 (by omega) hb (by omega) bS.cell (hp.below hb hB2)) (fun h k => h.trans k) (KpS.put (by omega) (by omega)) (Below.refl _ _) (fun _ => rfl)
        (SideI w w3.heap.size p q) (SideX w p q)
        (OwnFrom.and (Own.from (fun s A B row hs hg hr => ⟨hs.1, boxed_own w3.heap.size 3 (fun pre => Value.int .i64 (winds p q pre)) s A B row hs.2.1 hg hr, boxed2_kept hg hr hs.2.2.1, boxed_own (w.heap.size + 1) 3 (fun (_ : Unit) => Value.int .i64 0) () A B row hs.2.2.2.1 hg hr, boxed_own (w.heap.size + 1 + 1) 27 (fun (_ : Unit) => Value.int .i64 0) () A B row hs.2.2.2.2 hg hr⟩) _) (ownFrom_below (Nat.le_refl _) (by omega)))
        (fun c => OwnFrom.and (Own.from (fun s A B row hs hg hr => ⟨hs.1, hs.2.1, boxed_own (w.heap.size + 1) 3 (fun (_ : Unit) => Value.int .i64 0) () A B row hs.2.2.1 hg hr, boxed_own (w.heap.size + 1 + 1) 27 (fun (_ : Unit) => Value.int .i64 0) () A B row hs.2.2.2 hg hr⟩) _) (ownFrom_below (Nat.le_refl _) (by omega)))
        ⟨⟨⟨rfl⟩, bW, bP4, bR4, bE4⟩, hB2⟩
        (fun x a' W => ∃ B1 B2, Boxed2 W B1 x.1.f0 x.1.f1 ∧ Boxed2 W B2 x.2.f0 x.2.f1 ∧ a' = { tmps := #[.slice (some ⟨b, off, none⟩) l0.length c0, .agg #[.int .i64 p, .int .i64 q], undef, .pointer (some ⟨w.heap.size, 0, none⟩), .pointer (some ⟨w.heap.size + 1, 0, none⟩), .pointer (some ⟨w.heap.size + 1 + 1, 0, none⟩), .int .i64 0, .pointer (some ⟨w3.heap.size, 0, none⟩), .pointer (some ⟨B1, 0, none⟩), .pointer (some ⟨B2, 0, none⟩), undef, .slice (some ⟨b, off, none⟩) l0.length c0, .int .i64 0, .int .i64 0, .bool false, undef, .agg #[.int .i64 p, .int .i64 q], .slice (some ⟨w1.heap.size, 0, none⟩) 1 1, .bool true, .bool false, .slice (some ⟨b, off, none⟩) l0.length c0, .func (.func 88) #[] #[.pointer (some ⟨w3.heap.size + 1, 0, none⟩)], aggP x.1, aggP x.2, undef, undef, undef, undef, undef, undef, undef, undef, undef, undef, undef, undef, undef, undef, undef, undef, undef, undef, undef, undef, undef, undef, undef, undef, undef, undef, undef, undef, undef, undef, undef, undef, undef, undef, undef, undef, undef, undef, undef, undef, undef, undef, undef, undef, undef, undef, undef, undef, undef, undef, undef, undef, undef, undef, undef, undef, undef, undef, undef, undef, undef, undef, undef, undef, undef, undef, undef, undef], defers := [] })
        (fun x a' _ X Y row hs hg hr => by
          obtain ⟨B1, B2, h3, h4, h5⟩ := hs
          exact ⟨B1, B2, boxed2_kept hg (fun r e => (hr r e).2) h3, boxed2_kept hg (fun r e => (hr r e).2) h4, h5⟩)
        ?assign ?body ?done ?stop
      case assign =>
        rintro l pre x W K ⟨⟨ht, bW1, bP1_, bR1_, bE1_⟩, hBW⟩ hK
        dsimp only [encS, aggP]
        gi_wp2
        exact hK _ _ (((KeepsOthers.alloc _ _).trans (KeepsOthers.alloc _ _)).from _) ((KpS.alloc hBW.size _).trans (KpS.alloc (by have := hBW.size; simp; omega) _)) ⟨⟨ht, (bW1.alloc _).alloc _, (bP1_.alloc _).alloc _, (bR1_.alloc _).alloc _, (bE1_.alloc _).alloc _⟩, (hBW.alloc hBW.size _).alloc (by have := hBW.size; simp; omega) _⟩
          ⟨W.heap.size, W.heap.size + 1, (Boxed2.new _ _ _).alloc _, by have := Boxed2.new (W.alloc (.cells #[.int .i64 x.1.f0, .int .i64 x.1.f1] 39)) x.2.f0 x.2.f1; rwa [World.size_alloc] at this, rfl⟩
      case body =>
        rintro l pre x a' W hl hr2 ⟨⟨ht, bW1, bP1_, bR1_, bE1_⟩, hBW⟩ ⟨B1, B2, h3, h4, rfl⟩ hlt
        have st : SideSt W w.heap.size w3.heap.size p q (winds p q pre) B1 B2 x := ⟨bP1_, bR1_, bE1_, bW1, h3, h4⟩
        have cp0 := st.bP.c0
        have cp1 := st.bP.c1
        have cr := st.bR.cell
        have fr := st.bR.frozen
        have ce := st.bE.cell
        have fe := st.bE.frozen
        have cw := st.bW.cell
        have fw := st.bW.frozen
        have x0 := st.b1.c0
        have x1 := st.b1.c1
        have x2 := st.b2.c0
        have x3 := st.b2.c1
        have hO1 := fun W_ => geo_over.calls x.1.f0 x.2.f0 p p _ W_ (over_some _ _ _ _)
        have hO2 := fun W_ => geo_over.calls x.1.f1 x.2.f1 q q _ W_ (over_some _ _ _ _)
        gi_wp2_with (first | (refine ⟨trivial, ?_⟩; gi_at_call 70; refine (CallsIn.inRound l (callsIn_wide.2 (geo_turn.calls x.1.f0 x.1.f1 x.2.f0 x.2.f1 p q _ _ (turn_some _ _ _ _ _ _)))).mono ?_; rintro e4 w4 ⟨rfl, hb4⟩; clear cp0 cp1 cr fr ce fe cw fw x0 x1 x2 x3; have st4 := st.below hb4; have hW4 := hb4; have hB4 := hBW.trans (hb4.mono hBW.size); have cp0 := st4.bP.c0; have cp1 := st4.bP.c1; have cr := st4.bR.cell; have fr := st4.bR.frozen; have ce := st4.bE.cell; have fe := st4.bE.frozen; have cw := st4.bW.cell; have fw := st4.bW.frozen; have x0 := st4.b1.c0; have x1 := st4.b1.c1; have x2 := st4.b2.c0; have x3 := st4.b2.c1) | (refine ⟨trivial, ?_⟩; gi_at_call 71; refine (CallsIn.inRound l (callsIn_wide.2 (hO1 w4))).mono ?_; clear hO1; rintro e5 w5 ⟨rfl, hb5⟩; clear cp0 cp1 cr fr ce fe cw fw x0 x1 x2 x3; have st5 := st4.below hb5; have hW5 := hW4.trans (hb5.mono hb4.size); have hB5 := hB4.trans (hb5.mono hB4.size); have cp0 := st5.bP.c0; have cp1 := st5.bP.c1; have cr := st5.bR.cell; have fr := st5.bR.frozen; have ce := st5.bE.cell; have fe := st5.bE.frozen; have cw := st5.bW.cell; have fw := st5.bW.frozen; have x0 := st5.b1.c0; have x1 := st5.b1.c1; have x2 := st5.b2.c0; have x3 := st5.b2.c1) | (refine ⟨trivial, ?_⟩; gi_at_call 71; refine (CallsIn.inRound l (callsIn_wide.2 (hO2 w5))).mono ?_; clear hO2; rintro e6 w6 ⟨rfl, hb6⟩; clear cp0 cp1 cr fr ce fe cw fw x0 x1 x2 x3; have st6 := st5.below hb6; have hW6 := hW5.trans (hb6.mono (Nat.le_trans hb4.size hb5.size)); have hB6 := hB5.trans (hb6.mono hB5.size); have cp0 := st6.bP.c0; have cp1 := st6.bP.c1; have cr := st6.bR.cell; have fr := st6.bR.frozen; have ce := st6.bE.cell; have fe := st6.bE.frozen; have cw := st6.bW.cell; have fw := st6.bW.frozen; have x0 := st6.b1.c0; have x1 := st6.b1.c1; have x2 := st6.b2.c0; have x3 := st6.b2.c1) | (refine ⟨trivial, ?_⟩))
        all_goals first
          | exact side_leave st6 hB6 hW6 (by simp [onSide, turnP, *])
          | exact side_step st4 hB4 hW4 hBW.size ht.out (by omega) (by omega) (by simp [onSide, turnP, *]) (by unfold wind turnP; first | rw [if_pos (by omega)] | rw [if_neg (by omega), if_pos (by omega)])
          | exact side_stay st6 hB6 hW6 hBW.size ht.out (by simp [onSide, turnP, *]) (by unfold wind turnP; rw [if_neg (by omega), if_neg (by omega)])
          | exact side_stay st5 hB5 hW5 hBW.size ht.out (by simp [onSide, turnP, *]) (by unfold wind turnP; rw [if_neg (by omega), if_neg (by omega)])
          | exact side_stay st4 hB4 hW4 hBW.size ht.out (by simp [onSide, turnP, *]) (by unfold wind turnP; rw [if_neg (by omega), if_neg (by omega)])
      case done =>
        rintro D ys W hD rfl ⟨⟨ht, bW1, bP1_, bR1_, bE1_⟩, hBW⟩ hK
        have hr1 := HR.out
        simp only [sideV, ht.out, Bool.false_eq_true, if_false] at hr1
        have cw := bW1.cell
        have cr := bR1_.cell
        have fr := bR1_.frozen
        have ce := bE1_.cell
        have fe := bE1_.frozen
        by_cases hw0 : winds p q (upt l0 l0.length) = 0
        · have hwb : decide (winds p q (upt l0 l0.length) = 0) = true := decide_eq_true hw0
          rw [if_pos hw0] at hr1
          subst hr1
          gi_wp2
          have hK' := (KeepsOthers.setCell (W.setCell ⟨w.heap.size + 1, 0, none⟩ (.int .i64 (-1))) ⟨w.heap.size + 1 + 1, 0, none⟩ (.int .i64 0)).same D _ ((KeepsOthers.setCell W ⟨w.heap.size + 1, 0, none⟩ (.int .i64 (-1))).same D _ hK rfl) rfl
          refine ⟨by simp, .inl ⟨_, _, rfl, run_takeDeferred hK', ?_⟩⟩
          have h4 := cell_kept ((bR1_.set (.int .i64 (-1))).other (B' := w.heap.size + 1 + 1) (by omega) (.int .i64 0)).cell (grownBy_putObj' _ D (.deferred none)) (fun r e => by cases e; exact ⟨_, hK', rfl⟩)
          have h5 := cell_kept ((bE1_.other (B' := w.heap.size + 1) (by omega) (.int .i64 (-1))).set (.int .i64 0)).cell (grownBy_putObj' _ D (.deferred none)) (fun r e => by cases e; exact ⟨_, hK', rfl⟩)
          refine ⟨.tuple #[.int .i64 (-1), .int .i64 0], ?_, rfl, (((hBW.setCell (p := ⟨w.heap.size + 1, 0, none⟩) (by show w.heap.size ≤ w.heap.size + 1; omega) _).setCell (p := ⟨w.heap.size + 1 + 1, 0, none⟩) (by show w.heap.size ≤ w.heap.size + 1 + 1; omega) _)).trans (belowK_b (w := w) (Nat.le_refl _) _ D _ _ (by omega) hK' rfl rfl)⟩
          simp [results, Try.f34, go_sem, h4, h5]
        · have hwb : decide (winds p q (upt l0 l0.length) = 0) = false := decide_eq_false hw0
          rw [if_neg hw0] at hr1
          subst hr1
          gi_wp2
          have hK' := (KeepsOthers.setCell (W.setCell ⟨w.heap.size + 1, 0, none⟩ (.int .i64 (1))) ⟨w.heap.size + 1 + 1, 0, none⟩ (.int .i64 0)).same D _ ((KeepsOthers.setCell W ⟨w.heap.size + 1, 0, none⟩ (.int .i64 (1))).same D _ hK rfl) rfl
          refine ⟨by simp, .inl ⟨_, _, rfl, run_takeDeferred hK', ?_⟩⟩
          have h4 := cell_kept ((bR1_.set (.int .i64 (1))).other (B' := w.heap.size + 1 + 1) (by omega) (.int .i64 0)).cell (grownBy_putObj' _ D (.deferred none)) (fun r e => by cases e; exact ⟨_, hK', rfl⟩)
          have h5 := cell_kept ((bE1_.other (B' := w.heap.size + 1) (by omega) (.int .i64 (1))).set (.int .i64 0)).cell (grownBy_putObj' _ D (.deferred none)) (fun r e => by cases e; exact ⟨_, hK', rfl⟩)
          refine ⟨.tuple #[.int .i64 (1), .int .i64 0], ?_, rfl, (((hBW.setCell (p := ⟨w.heap.size + 1, 0, none⟩) (by show w.heap.size ≤ w.heap.size + 1; omega) _).setCell (p := ⟨w.heap.size + 1 + 1, 0, none⟩) (by show w.heap.size ≤ w.heap.size + 1 + 1; omega) _)).trans (belowK_b (w := w) (Nat.le_refl _) _ D _ _ (by omega) hK' rfl rfl)⟩
          simp [results, Try.f34, go_sem, h4, h5]
      case stop =>
        rintro D c pre W hD ⟨kk, hkk, rfl⟩ ⟨⟨rfl, ht, bR1_, bE1_⟩, hBW⟩ hK
        have hr1 := HR.out
        rw [sideV, if_pos (upt_any_le hkk ht.out)] at hr1
        subst hr1
        gi_wp2
        refine ⟨by simp, .inl ⟨_, _, rfl, run_takeDeferred hK, ?_⟩⟩
        have h4 := cell_kept bR1_.cell (grownBy_putObj' _ D (.deferred none)) (fun r e => by cases e; exact ⟨_, hK, rfl⟩)
        have h5 := cell_kept bE1_.cell (grownBy_putObj' _ D (.deferred none)) (fun r e => by cases e; exact ⟨_, hK, rfl⟩)
        refine ⟨.tuple #[.int .i64 0, .int .i64 0], ?_, rfl, hBW.trans (belowK_b (w := w) (Nat.le_refl _) W D _ _ (by omega) hK rfl rfl)⟩
        simp [results, Try.f34, go_sem, h4, h5]
  · have c1b : (e != 0) = true := by simp [c1]
    have hr := H.out
    rw [if_neg c1] at hr
    simp only [Option.some.injEq, Prod.mk.injEq] at hr
    obtain ⟨rfl, rfl⟩ := hr
    gi_wp2_with (refine ⟨trivial, ?_⟩; gi_at_call 46; (try rw [hwA]); refine (callsIn_wide.2 (geo_Simple.calls k A0 c0 l0 e wA (Kd.C_below HR0.out hBA) HC0.out HE.out)).mono ?_; rintro e_ w1 ⟨rfl, hb1⟩; have hs1 := hb1.size; have bP1 := bP.below hb1 (by omega); have bR1 := Boxed.below bR hb1 (by omega); have bE1 := Boxed.below bE hb1 (by omega); have cp0 := bP1.c0; have cp1 := bP1.c1; have cr := bR1.cell; have fr := bR1.frozen; have ce := bE1.cell; have fe := bE1.frozen)
    refine ⟨.tuple #[.int .i64 0, .int .i64 e], ?_, rfl, ?_⟩
    · have h4 := ((bR1.set (.int .i64 0)).other (B' := w.heap.size + 1 + 1) (by omega) (.int .i64 e)).cell
      have h5 := ((bE1.other (B' := w.heap.size + 1) (by omega) (.int .i64 0)).set (.int .i64 e)).cell
      simp [results, Try.f34, go_sem, h4, h5]
    · exact ((hBA.trans (hb1.mono (by omega))).setCell (p := ⟨w.heap.size + 1, 0, none⟩) (by show w.heap.size ≤ w.heap.size + 1; omega) _).setCell (p := ⟨w.heap.size + 1 + 1, 0, none⟩) (by show w.heap.size ≤ w.heap.size + 1 + 1; omega) _
end Go.Proofs.Ytjalkjeldlchoaa.X
end
section
set_option linter.unusedSectionVars false
set_option linter.unusedSimpArgs false
set_option linter.unusedVariables false
namespace Go.Proofs.Ytjalkjeldlchoaa.X
open Go.RowKit Go.Shelf Go.Proofs.YtjalkjeldlchoaaW.PrintWords Go.Proofs.YtjalkjeldlchoaaW.PrintLast Go.Proofs.YtjalkjeldlchoaaW.PrintMore Go.Proofs.Ytjalkjeldlchoaa.HKit
theorem max2_I (k k' : IntKind) (x y : Int) : Builtin.max2 (.int k x) (.int k' y) = pure (.int k (maxI x y)) := max2_int k k' x y
theorem min2_I (k k' : IntKind) (x y : Int) : Builtin.min2 (.int k x) (.int k' y) = pure (.int k (minI x y)) := min2_int k k' x y
attribute [local go_sem] max2_I min2_I max_two min_two
set_option linter.unusedVariables false
set_option linter.unusedSimpArgs false
theorem points_of {W : World} {B : Nat} {l : List S23} (hm : l.length ≤ 64) (h : ∀ j x, l[j]? = some x → W.cell? ⟨B, 2 * j, none⟩ = some (.int .i64 x.f0) ∧ W.cell? ⟨B, 2 * j + 1, none⟩ = some (.int .i64 x.f1)) :
    Kd.C k23 W (some ⟨B, 0, none⟩) l.length l := by
  refine ⟨rfl, Nat.le_trans hm (by decide), fun _ => ⟨_, rfl, fun j x hj => ?_⟩⟩
  refine ⟨[.int .i64 x.f0, .int .i64 x.f1], rfl, k23_mk W _, fun i u hi => ?_⟩
  have e : (⟨B, 0, none⟩ : Addr).add (j * 2 + i) = ⟨B, 2 * j + i, none⟩ := by
    unfold Addr.add
    by_cases hk0 : j * 2 + i = 0
    · rw [if_pos hk0]; congr 1; omega
    · rw [if_neg hk0]; show (⟨B, 0 + (j * 2 + i), none⟩ : Addr) = _; congr 1; omega
  match i, hi with
  | 0, hi =>
    obtain rfl : Value.int .i64 x.f0 = u := by simpa using hi
    exact (congrArg W.cell? e).trans (h j x hj).1
  | 1, hi =>
    obtain rfl : Value.int .i64 x.f1 = u := by simpa using hi
    exact (congrArg W.cell? e).trans (h j x hj).2
  | i + 2, hi => simp at hi
structure TouchSt (W : World) (g : Nat) (a0 a1 b0 b1 x0 x1 y0 y1 : Int) : Prop where
  cA : W.heap[g]? = some (.cells #[.int .i64 a0, .int .i64 a1] 39 (0, 0))
  cB : W.heap[g + 1]? = some (.cells #[.int .i64 b0, .int .i64 b1] 39 (0, 0))
  cX : W.heap[g + 1 + 1]? = some (.cells #[.int .i64 x0, .int .i64 x1] 32 (0, 0))
  cY : W.heap[g + 1 + 1 + 1]? = some (.cells #[.int .i64 y0, .int .i64 y1] 32 (0, 0))
  cC : W.heap[g + 1 + 1 + 1 + 1]? = some (.cells #[.int .i64 x0, .int .i64 y0, .int .i64 x0, .int .i64 y1, .int .i64 x1, .int .i64 y0, .int .i64 x1, .int .i64 y1] 118 (0, 0))
section
variable {W W' : World} {g n : Nat} {a0 a1 b0 b1 x0 x1 y0 y1 : Int}
theorem TouchSt.below (h : TouchSt W g a0 a1 b0 b1 x0 x1 y0 y1) (hb : Below n W W') (hn : g + 5 ≤ n) : TouchSt W' g a0 a1 b0 b1 x0 x1 y0 y1 :=
  ⟨(hb.block _ (by omega)).trans h.cA, (hb.block _ (by omega)).trans h.cB, (hb.block _ (by omega)).trans h.cX, (hb.block _ (by omega)).trans h.cY, (hb.block _ (by omega)).trans h.cC⟩
theorem cell_of {W : World} {B j : Nat} {cs : Array Value} {t : TypeId} {v : Value} (h : W.heap[B]? = some (.cells cs t (0, 0))) (hv : cs[j]? = some v) : W.cell? ⟨B, j, none⟩ = some v := by
  simp [World.cell?, h, hv]
theorem TouchSt.k0 (h : TouchSt W g a0 a1 b0 b1 x0 x1 y0 y1) : W.cell? ⟨g, 0, none⟩ = some (.int .i64 a0) := cell_of h.cA rfl
theorem TouchSt.k1 (h : TouchSt W g a0 a1 b0 b1 x0 x1 y0 y1) : W.cell? ⟨g, 1, none⟩ = some (.int .i64 a1) := cell_of h.cA rfl
theorem TouchSt.k2 (h : TouchSt W g a0 a1 b0 b1 x0 x1 y0 y1) : W.cell? ⟨g + 1, 0, none⟩ = some (.int .i64 b0) := cell_of h.cB rfl
theorem TouchSt.k3 (h : TouchSt W g a0 a1 b0 b1 x0 x1 y0 y1) : W.cell? ⟨g + 1, 1, none⟩ = some (.int .i64 b1) := cell_of h.cB rfl
theorem TouchSt.k4 (h : TouchSt W g a0 a1 b0 b1 x0 x1 y0 y1) : W.cell? ⟨g + 1 + 1, 0, none⟩ = some (.int .i64 x0) := cell_of h.cX rfl
theorem TouchSt.k5 (h : TouchSt W g a0 a1 b0 b1 x0 x1 y0 y1) : W.cell? ⟨g + 1 + 1, 1, none⟩ = some (.int .i64 x1) := cell_of h.cX rfl
theorem TouchSt.k6 (h : TouchSt W g a0 a1 b0 b1 x0 x1 y0 y1) : W.cell? ⟨g + 1 + 1 + 1, 0, none⟩ = some (.int .i64 y0) := cell_of h.cY rfl
theorem TouchSt.k7 (h : TouchSt W g a0 a1 b0 b1 x0 x1 y0 y1) : W.cell? ⟨g + 1 + 1 + 1, 1, none⟩ = some (.int .i64 y1) := cell_of h.cY rfl
theorem TouchSt.corners (h : TouchSt W g a0 a1 b0 b1 x0 x1 y0 y1) : Kd.C k23 W (some ⟨g + 1 + 1 + 1 + 1, 0, none⟩) (cornersOf x0 x1 y0 y1).length (cornersOf x0 x1 y0 y1) := by
  refine points_of (l := cornersOf x0 x1 y0 y1) (by simp [cornersOf]) fun j x hj => ?_
  match j, hj with
  | 0, hj => obtain rfl := Option.some.inj hj; exact ⟨cell_of h.cC rfl, cell_of h.cC rfl⟩
  | 1, hj => obtain rfl := Option.some.inj hj; exact ⟨cell_of h.cC rfl, cell_of h.cC rfl⟩
  | 2, hj => obtain rfl := Option.some.inj hj; exact ⟨cell_of h.cC rfl, cell_of h.cC rfl⟩
  | 3, hj => obtain rfl := Option.some.inj hj; exact ⟨cell_of h.cC rfl, cell_of h.cC rfl⟩
  | j + 4, hj => simp [cornersOf] at hj
theorem two_points {B : Nat} (h : W.heap[B]? = some (.cells #[.int .i64 a0, .int .i64 a1, .int .i64 b0, .int .i64 b1] 39 (0, 0))) : Kd.C k23 W (some ⟨B, 0, none⟩) ([⟨a0, a1⟩, ⟨b0, b1⟩] : List S23).length [⟨a0, a1⟩, ⟨b0, b1⟩] := by
  refine points_of (l := [⟨a0, a1⟩, ⟨b0, b1⟩]) (by simp) fun j x hj => ?_
  match j, hj with
  | 0, hj => obtain rfl := Option.some.inj hj; exact ⟨cell_of h rfl, cell_of h rfl⟩
  | 1, hj => obtain rfl := Option.some.inj hj; exact ⟨cell_of h rfl, cell_of h rfl⟩
  | j + 2, hj => simp at hj
end
theorem touch_eq {a0 a1 b0 b1 x0 x1 y0 y1 : Int} {v1 v2 v3 v4 : Bool} (h1 : v1 = !([⟨a0, a1⟩, ⟨b0, b1⟩] : List S23).any outP) (h2 : v2 = !(cornersOf x0 x1 y0 y1).any outP) (h3 : v3 = overV a0 b0 x0 x1) (h4 : v4 = overV a1 b1 y0 y1) :
    touchV a0 a1 b0 b1 x0 x1 y0 y1 = (if v1 = false then (false, 5) else if v2 = false then (false, 5) else if x0 > x1 then (false, 1) else if y0 > y1 then (false, 1) else if v3 = false then (false, 0) else if v4 = false then (false, 0) else
    (if leastV a0 a1 b0 b1 (cornersOf x0 x1 y0 y1) ≤ 0 then decide (mostV a0 a1 b0 b1 (cornersOf x0 x1 y0 y1) ≥ 0) else false, 0)) := by
  subst h1 h2 h3 h4
  simp only [touchV, Bool.not_eq_false']
theorem heap_keep {W : World} {o x : Obj} {g : Nat} (h : W.heap[g]? = some x) : (W.alloc o).heap[g]? = some x := (Below.heap_alloc _ _ _ (Array.getElem?_eq_some_iff.1 h).1).trans h
abbrev TS (wr : World) (g : Nat) (a0 a1 b0 b1 c0 c1 : Int) (W : World) : Prop :=
  Below wr.heap.size wr W ∧ W.cell? ⟨g, 0, none⟩ = some (.int .i64 a0) ∧ W.cell? ⟨g, 1, none⟩ = some (.int .i64 a1) ∧ W.cell? ⟨g + 1, 0, none⟩ = some (.int .i64 b0) ∧ W.cell? ⟨g + 1, 1, none⟩ = some (.int .i64 b1) ∧ W.cell? ⟨wr.heap.size, 0, none⟩ = some (.int .i64 c0) ∧ W.cell? ⟨wr.heap.size, 1, none⟩ = some (.int .i64 c1) ∧ wr.heap.size < W.heap.size
theorem TS.begin {wr : World} {g : Nat} {a0 a1 b0 b1 c0 c1 : Int} (hg : g + 1 < wr.heap.size) (q0 : wr.cell? ⟨g, 0, none⟩ = some (.int .i64 a0)) (q1 : wr.cell? ⟨g, 1, none⟩ = some (.int .i64 a1)) (q2 : wr.cell? ⟨g + 1, 0, none⟩ = some (.int .i64 b0)) (q3 : wr.cell? ⟨g + 1, 1, none⟩ = some (.int .i64 b1)) :
    TS wr g a0 a1 b0 b1 c0 c1 (wr.alloc (.cells #[.int .i64 c0, .int .i64 c1] 39)).drew := by
  have hb : Below wr.heap.size wr (wr.alloc (.cells #[.int .i64 c0, .int .i64 c1] 39)) := (Below.refl _ wr).alloc (Nat.le_refl _) _
  have hn := World.alloc_heap_new wr (.cells #[.int .i64 c0, .int .i64 c1] 39)
  refine ⟨below_drew1 hb, ?_, ?_, ?_, ?_, ?_, ?_, ?_⟩
  · exact (hb.cell (p := ⟨g, 0, none⟩) (by show g < _; omega)).trans q0
  · exact (hb.cell (p := ⟨g, 1, none⟩) (by show g < _; omega)).trans q1
  · exact (hb.cell (p := ⟨g + 1, 0, none⟩) hg).trans q2
  · exact (hb.cell (p := ⟨g + 1, 1, none⟩) hg).trans q3
  · exact cell_of hn rfl
  · exact cell_of hn rfl
  · show wr.heap.size < (wr.alloc _).heap.size
    simp
theorem TS.step {wr W W' : World} {g : Nat} {a0 a1 b0 b1 c0 c1 : Int} (hg : g + 1 < wr.heap.size) (h : TS wr g a0 a1 b0 b1 c0 c1 W) (hb : Below W.heap.size W W') : TS wr g a0 a1 b0 b1 c0 c1 W' := by
  obtain ⟨h0, h1, h2, h3, h4, h5, h6, h7⟩ := h
  have hs := hb.size
  exact ⟨h0.trans (hb.mono (by omega)), (hb.cell (p := ⟨g, 0, none⟩) (by show g < _; omega)).trans h1, (hb.cell (p := ⟨g, 1, none⟩) (by show g < _; omega)).trans h2, (hb.cell (p := ⟨g + 1, 0, none⟩) (by show g + 1 < _; omega)).trans h3, (hb.cell (p := ⟨g + 1, 1, none⟩) (by show g + 1 < _; omega)).trans h4, (hb.cell (p := ⟨wr.heap.size, 0, none⟩) h7).trans h5, (hb.cell (p := ⟨wr.heap.size, 1, none⟩) h7).trans h6, by omega⟩
def geo_Touches.f (a0 a1 b0 b1 x0 x1 y0 y1 : Int) : Option (Bool × Int) := some (touchV a0 a1 b0 b1 x0 x1 y0 y1)
set_option maxRecDepth 100000 in
set_option maxHeartbeats 4000000 in
theorem geo_Touches.calls (a0 a1 b0 b1 x0 x1 y0 y1 : Int) (r1 : Bool) (r2 : Int) (w : World) (h : geo_Touches.f a0 a1 b0 b1 x0 x1 y0 y1 = some (r1, r2)) :
    Calls Try.prog 80 #[.agg #[.int .i64 a0, .int .i64 a1], .agg #[.int .i64 b0, .int .i64 b1], .agg #[.int .i64 x0, .int .i64 x1], .agg #[.int .i64 y0, .int .i64 y1]] w fun e w' => e = .returned (.tuple #[.bool r1, .int .i64 r2]) ∧ Below w.heap.size w w' := by
  have H := Aside0.mk (Option.some.inj h)
  clear h
  have hBA : Below w.heap.size w ((((((w.alloc (.cells #[.int .i64 a0, .int .i64 a1] 39)).alloc (.cells #[.int .i64 b0, .int .i64 b1] 39)).alloc (.cells #[.int .i64 x0, .int .i64 x1] 32)).alloc (.cells #[.int .i64 y0, .int .i64 y1] 32)).alloc (.cells #[.int .i64 x0, .int .i64 y0, .int .i64 x0, .int .i64 y1, .int .i64 x1, .int .i64 y0, .int .i64 x1, .int .i64 y1] 118)).alloc (.cells #[.int .i64 a0, .int .i64 a1, .int .i64 b0, .int .i64 b1] 39)) := ((((((Below.refl _ w).alloc (Nat.le_refl _) _).alloc (by simp) _).alloc (by simp; omega) _).alloc (by simp; omega) _).alloc (by simp; omega) _).alloc (by simp; omega) _
  have hzA : ((((((w.alloc (.cells #[.int .i64 a0, .int .i64 a1] 39)).alloc (.cells #[.int .i64 b0, .int .i64 b1] 39)).alloc (.cells #[.int .i64 x0, .int .i64 x1] 32)).alloc (.cells #[.int .i64 y0, .int .i64 y1] 32)).alloc (.cells #[.int .i64 x0, .int .i64 y0, .int .i64 x0, .int .i64 y1, .int .i64 x1, .int .i64 y0, .int .i64 x1, .int .i64 y1] 118)).alloc (.cells #[.int .i64 a0, .int .i64 a1, .int .i64 b0, .int .i64 b1] 39)).heap.size = w.heap.size + 6 := by simp
  have hrow : Kd.C k23 ((((((w.alloc (.cells #[.int .i64 a0, .int .i64 a1] 39)).alloc (.cells #[.int .i64 b0, .int .i64 b1] 39)).alloc (.cells #[.int .i64 x0, .int .i64 x1] 32)).alloc (.cells #[.int .i64 y0, .int .i64 y1] 32)).alloc (.cells #[.int .i64 x0, .int .i64 y0, .int .i64 x0, .int .i64 y1, .int .i64 x1, .int .i64 y0, .int .i64 x1, .int .i64 y1] 118)).alloc (.cells #[.int .i64 a0, .int .i64 a1, .int .i64 b0, .int .i64 b1] 39)) (some ⟨w.heap.size + 1 + 1 + 1 + 1 + 1, 0, none⟩) ([⟨a0, a1⟩, ⟨b0, b1⟩] : List S23).length [⟨a0, a1⟩, ⟨b0, b1⟩] := two_points (heap_at _ _ _ (by simp))
  have st : TouchSt ((((((w.alloc (.cells #[.int .i64 a0, .int .i64 a1] 39)).alloc (.cells #[.int .i64 b0, .int .i64 b1] 39)).alloc (.cells #[.int .i64 x0, .int .i64 x1] 32)).alloc (.cells #[.int .i64 y0, .int .i64 y1] 32)).alloc (.cells #[.int .i64 x0, .int .i64 y0, .int .i64 x0, .int .i64 y1, .int .i64 x1, .int .i64 y0, .int .i64 x1, .int .i64 y1] 118)).alloc (.cells #[.int .i64 a0, .int .i64 a1, .int .i64 b0, .int .i64 b1] 39)) w.heap.size a0 a1 b0 b1 x0 x1 y0 y1 := ⟨heap_keep (heap_keep (heap_keep (heap_keep (heap_keep (heap_at _ _ _ (by simp)))))), heap_keep (heap_keep (heap_keep (heap_keep (heap_at _ _ _ (by simp))))), heap_keep (heap_keep (heap_keep (heap_at _ _ _ (by simp)))), heap_keep (heap_keep (heap_at _ _ _ (by simp))), heap_keep (heap_at _ _ _ (by simp))⟩
  obtain ⟨wA, hwA⟩ : ∃ wA, ((((((w.alloc (.cells #[.int .i64 a0, .int .i64 a1] 39)).alloc (.cells #[.int .i64 b0, .int .i64 b1] 39)).alloc (.cells #[.int .i64 x0, .int .i64 x1] 32)).alloc (.cells #[.int .i64 y0, .int .i64 y1] 32)).alloc (.cells #[.int .i64 x0, .int .i64 y0, .int .i64 x0, .int .i64 y1, .int .i64 x1, .int .i64 y0, .int .i64 x1, .int .i64 y1] 118)).alloc (.cells #[.int .i64 a0, .int .i64 a1, .int .i64 b0, .int .i64 b1] 39)) = wA := ⟨_, rfl⟩
  rw [hwA] at hBA hzA hrow st
  obtain ⟨v1, V1, D1⟩ : ∃ v, Aside0 (geo_fits.f [⟨a0, a1⟩, ⟨b0, b1⟩] = some v) ∧ Aside0 (v = !([⟨a0, a1⟩, ⟨b0, b1⟩] : List S23).any outP) := ⟨_, ⟨by rw [geo_fits.f, if_pos (by simp)]⟩, ⟨rfl⟩⟩
  obtain ⟨v2, V2, D2⟩ : ∃ v, Aside0 (geo_fits.f (cornersOf x0 x1 y0 y1) = some v) ∧ Aside0 (v = !(cornersOf x0 x1 y0 y1).any outP) := ⟨_, ⟨by rw [geo_fits.f, if_pos (by simp [cornersOf])]⟩, ⟨rfl⟩⟩
  obtain ⟨v3, V3, D3⟩ : ∃ v, Aside0 (geo_over.f a0 b0 x0 x1 = some v) ∧ Aside0 (v = overV a0 b0 x0 x1) := ⟨_, ⟨over_some _ _ _ _⟩, ⟨rfl⟩⟩
  obtain ⟨v4, V4, D4⟩ : ∃ v, Aside0 (geo_over.f a1 b1 y0 y1 = some v) ∧ Aside0 (v = overV a1 b1 y0 y1) := ⟨_, ⟨over_some _ _ _ _⟩, ⟨rfl⟩⟩
  rw [touch_eq D1.out D2.out D3.out D4.out] at H
  go_enter Try.func80, Try.ntmps80
  go_wp2_with (go_at_call 68; (try rw [hwA]); refine (geo_fits.calls (some ⟨w.heap.size + 1 + 1 + 1 + 1 + 1, 0, none⟩) 2 [⟨a0, a1⟩, ⟨b0, b1⟩] v1 wA hrow (Nat.le_refl _) V1.out).mono ?_; rintro e_ w1 ⟨rfl, hb1⟩; have st1 := st.below hb1 (by omega); have hB1 := hBA.trans (hb1.mono (by omega)); have hz1 := hb1.size; refine Aside0.out ?_)
  constructor
  cases v1 with
  | false =>
    have hr := H.out; rw [if_pos rfl] at hr
    go_wp2
    go_ret2
    exact ⟨by cases hr; rfl, hB1⟩
  | true =>
  replace H : Aside0 _ := ⟨by have hr := H.out; rw [if_neg (show ¬ (true = false) by decide)] at hr; exact hr⟩
  have hpC := st1.corners
  go_wp2_with (go_at_call 68; refine (geo_fits.calls (some ⟨w.heap.size + 1 + 1 + 1 + 1, 0, none⟩) 4 (cornersOf x0 x1 y0 y1) v2 w1 hpC (Nat.le_refl _) V2.out).mono ?_; rintro e_ w2 ⟨rfl, hb2⟩; have st2 := st1.below hb2 (by omega); have hB2 := hB1.trans (hb2.mono (by omega)); have hz2 := hb2.size; refine Aside0.out ?_)
  constructor
  cases v2 with
  | false =>
    have hr := H.out; rw [if_pos rfl] at hr
    go_wp2
    go_ret2
    exact ⟨by cases hr; rfl, hB2⟩
  | true =>
  replace H : Aside0 _ := ⟨by have hr := H.out; rw [if_neg (show ¬ (true = false) by decide)] at hr; exact hr⟩
  have k0 := st2.k0
  have k1 := st2.k1
  have k2 := st2.k2
  have k3 := st2.k3
  have k4 := st2.k4
  have k5 := st2.k5
  have k6 := st2.k6
  have k7 := st2.k7
  by_cases e3 : x0 > x1
  · have e3b : decide (x0 > x1) = true := decide_eq_true e3
    have hr := H.out; rw [if_pos e3] at hr
    go_wp2
    go_ret2
    exact ⟨by cases hr; rfl, hB2⟩
  have e3b : decide (x0 > x1) = false := decide_eq_false e3
  replace H : Aside0 _ := ⟨by have hr := H.out; rw [if_neg e3] at hr; exact hr⟩
  by_cases e4 : y0 > y1
  · have e4b : decide (y0 > y1) = true := decide_eq_true e4
    have hr := H.out; rw [if_pos e4] at hr
    go_wp2
    go_ret2
    exact ⟨by cases hr; rfl, hB2⟩
  have e4b : decide (y0 > y1) = false := decide_eq_false e4
  replace H : Aside0 _ := ⟨by have hr := H.out; rw [if_neg e4] at hr; exact hr⟩
  go_wp2_with (go_at_call 71; refine (geo_over.calls a0 b0 x0 x1 v3 w2 V3.out).mono ?_; rintro e_ w3 ⟨rfl, hb3⟩; clear k0 k1 k2 k3 k4 k5 k6 k7; have st3 := st2.below hb3 (by omega); have hB3 := hB2.trans (hb3.mono (by omega)); have hz3 := hb3.size; refine Aside0.out ?_)
  constructor
  cases v3 with
  | false =>
    have hr := H.out; rw [if_pos rfl] at hr
    go_wp2
    go_ret2
    exact ⟨by cases hr; rfl, hB3⟩
  | true =>
  replace H : Aside0 _ := ⟨by have hr := H.out; rw [if_neg (show ¬ (true = false) by decide)] at hr; exact hr⟩
  have k0 := st3.k0
  have k1 := st3.k1
  have k2 := st3.k2
  have k3 := st3.k3
  have k4 := st3.k4
  have k5 := st3.k5
  have k6 := st3.k6
  have k7 := st3.k7
  go_wp2_with (go_at_call 71; refine (geo_over.calls a1 b1 y0 y1 v4 w3 V4.out).mono ?_; rintro e_ w4 ⟨rfl, hb4⟩; clear k0 k1 k2 k3 k4 k5 k6 k7; have st4 := st3.below hb4 (by omega); have hB4 := hB3.trans (hb4.mono (by omega)); have hz4 := hb4.size; refine Aside0.out ?_)
  constructor
  cases v4 with
  | false =>
    have hr := H.out; rw [if_pos rfl] at hr
    go_wp2
    go_ret2
    exact ⟨by cases hr; rfl, hB4⟩
  | true =>
  replace H : Aside0 _ := ⟨by have hr := H.out; rw [if_neg (show ¬ (true = false) by decide)] at hr; exact hr⟩
  have k0 := st4.k0
  have k1 := st4.k1
  have k2 := st4.k2
  have k3 := st4.k3
  have k8 := cell_of (j := 0) st4.cC rfl
  have k9 := cell_of (j := 1) st4.cC rfl
  have k10 := cell_of (j := 2) st4.cC rfl
  have k11 := cell_of (j := 3) st4.cC rfl
  have k12 := cell_of (j := 4) st4.cC rfl
  have k13 := cell_of (j := 5) st4.cC rfl
  have k14 := cell_of (j := 6) st4.cC rfl
  have k15 := cell_of (j := 7) st4.cC rfl
  go_wp2
  skip
  go_loopw [11, 12, 14, 81, 82, 83, 84, 85, 86, 87, 88, 89, 90, 91, 92, 93, 94, 95, 96] (fun v11 v12 _ v81 _ _ _ _ _ _ _ _ _ _ _ _ _ _ _ wr => ∃ kk : Nat, kk ≤ 4 ∧ v81 = .int .i64 kk ∧ v11 = .int .i64 (leastV a0 a1 b0 b1 ((cornersOf x0 x1 y0 y1).take kk)) ∧ v12 = .int .i64 (mostV a0 a1 b0 b1 ((cornersOf x0 x1 y0 y1).take kk)) ∧ Aside0 (Below w4.heap.size w4 wr)) (fun _ _ _ v _ _ _ _ _ _ _ _ _ _ _ _ _ _ _ _ => 4 - (intOf v).toNat)
  case atStart => exact ⟨0, Nat.zero_le _, rfl, rfl, rfl, ⟨Below.refl _ _⟩⟩
  case round =>
    obtain ⟨kk, hkk, rfl, rfl, rfl, HB⟩ := hrel
    have hzr := HB.out.size
    have hgr : w.heap.size + 1 < wr.heap.size := by omega
    have q0 := (st4.below HB.out (by omega)).k0
    have q1 := (st4.below HB.out (by omega)).k1
    have q2 := (st4.below HB.out (by omega)).k2
    have q3 := (st4.below HB.out (by omega)).k3
    clear k0 k1 k2 k3 k8 k9 k10 k11 k12 k13 k14 k15
    obtain rfl | rfl | rfl | rfl | rfl : kk = 0 ∨ kk = 1 ∨ kk = 2 ∨ kk = 3 ∨ kk = 4 := by omega
    · obtain ⟨m0, hm0⟩ : ∃ m, leastV a0 a1 b0 b1 ((cornersOf x0 x1 y0 y1).take 0) = m := ⟨_, rfl⟩
      obtain ⟨m1, hm1⟩ : ∃ m, mostV a0 a1 b0 b1 ((cornersOf x0 x1 y0 y1).take 0) = m := ⟨_, rfl⟩
      have HM0 := Aside0.mk (show leastV a0 a1 b0 b1 ((cornersOf x0 x1 y0 y1).take 1) = minI m0 (turnV a0 a1 b0 b1 x0 y0) from hm0 ▸ rfl)
      have HM1 := Aside0.mk (show mostV a0 a1 b0 b1 ((cornersOf x0 x1 y0 y1).take 1) = maxI m1 (turnV a0 a1 b0 b1 x0 y0) from hm1 ▸ rfl)
      rw [hm0, hm1]
      clear hm0 hm1
      have ix : ∀ w_ : World, (Instr.index 118 (.agg #[.int .i64 x0, .int .i64 y0, .int .i64 x0, .int .i64 y1, .int .i64 x1, .int .i64 y0, .int .i64 x1, .int .i64 y1]) (.int .i64 0)).run Try.prog w_ = .ok (.agg #[.int .i64 x0, .int .i64 y0]) w_ := fun _ => by kernel_rfl
      go_wp2
      go_region_held3 (fun W' => Below wr.heap.size wr W' ∧ W'.cell? ⟨w.heap.size, 0, none⟩ = some (.int .i64 a0) ∧ W'.cell? ⟨w.heap.size, 1, none⟩ = some (.int .i64 a1) ∧ W'.cell? ⟨w.heap.size + 1, 0, none⟩ = some (.int .i64 b0) ∧ W'.cell? ⟨w.heap.size + 1, 1, none⟩ = some (.int .i64 b1) ∧ W'.cell? ⟨wr.heap.size, 0, none⟩ = some (.int .i64 x0) ∧ W'.cell? ⟨wr.heap.size, 1, none⟩ = some (.int .i64 y0) ∧ wr.heap.size < W'.heap.size) ((first | assumption | exact TS.begin hgr q0 q1 q2 q3 | exact TS.step hgr (by assumption) hb5)) ((go_at_call 70; refine (geo_turn.calls a0 a1 b0 b1 x0 y0 _ _ (turn_some _ _ _ _ _ _)).mono ?_; rintro e_ w5 ⟨rfl, hb5⟩))
      all_goals go_wp2
      all_goals go_roundw
      all_goals first | exact ⟨1, by omega, by first | rfl | (simp; done) | omega, HM0.out.symm, HM1.out.symm, ⟨HB.out.trans ((‹Below wr.heap.size wr w5 ∧ _›).1.mono hzr)⟩⟩ | exact ⟨1, by omega, by first | rfl | (simp; done) | go_num, by rw [HM0.out], by rw [HM1.out], ⟨HB.out.trans ((‹Below wr.heap.size wr w5 ∧ _›).1.mono hzr)⟩⟩ | (simp [intOf]; done)
    · obtain ⟨m0, hm0⟩ : ∃ m, leastV a0 a1 b0 b1 ((cornersOf x0 x1 y0 y1).take 1) = m := ⟨_, rfl⟩
      obtain ⟨m1, hm1⟩ : ∃ m, mostV a0 a1 b0 b1 ((cornersOf x0 x1 y0 y1).take 1) = m := ⟨_, rfl⟩
      have HM0 := Aside0.mk (show leastV a0 a1 b0 b1 ((cornersOf x0 x1 y0 y1).take 2) = minI m0 (turnV a0 a1 b0 b1 x0 y1) from hm0 ▸ rfl)
      have HM1 := Aside0.mk (show mostV a0 a1 b0 b1 ((cornersOf x0 x1 y0 y1).take 2) = maxI m1 (turnV a0 a1 b0 b1 x0 y1) from hm1 ▸ rfl)
      rw [hm0, hm1]
      clear hm0 hm1
      have ix : ∀ w_ : World, (Instr.index 118 (.agg #[.int .i64 x0, .int .i64 y0, .int .i64 x0, .int .i64 y1, .int .i64 x1, .int .i64 y0, .int .i64 x1, .int .i64 y1]) (.int .i64 1)).run Try.prog w_ = .ok (.agg #[.int .i64 x0, .int .i64 y1]) w_ := fun _ => by kernel_rfl
      go_wp2
      go_region_held3 (fun W' => Below wr.heap.size wr W' ∧ W'.cell? ⟨w.heap.size, 0, none⟩ = some (.int .i64 a0) ∧ W'.cell? ⟨w.heap.size, 1, none⟩ = some (.int .i64 a1) ∧ W'.cell? ⟨w.heap.size + 1, 0, none⟩ = some (.int .i64 b0) ∧ W'.cell? ⟨w.heap.size + 1, 1, none⟩ = some (.int .i64 b1) ∧ W'.cell? ⟨wr.heap.size, 0, none⟩ = some (.int .i64 x0) ∧ W'.cell? ⟨wr.heap.size, 1, none⟩ = some (.int .i64 y1) ∧ wr.heap.size < W'.heap.size) ((first | assumption | exact TS.begin hgr q0 q1 q2 q3 | exact TS.step hgr (by assumption) hb5)) ((go_at_call 70; refine (geo_turn.calls a0 a1 b0 b1 x0 y1 _ _ (turn_some _ _ _ _ _ _)).mono ?_; rintro e_ w5 ⟨rfl, hb5⟩))
      all_goals go_wp2
      all_goals go_roundw
      all_goals first | exact ⟨2, by omega, by first | rfl | (simp; done) | omega, HM0.out.symm, HM1.out.symm, ⟨HB.out.trans ((‹Below wr.heap.size wr w5 ∧ _›).1.mono hzr)⟩⟩ | exact ⟨2, by omega, by first | rfl | (simp; done) | go_num, by rw [HM0.out], by rw [HM1.out], ⟨HB.out.trans ((‹Below wr.heap.size wr w5 ∧ _›).1.mono hzr)⟩⟩ | (simp [intOf]; done)
    · obtain ⟨m0, hm0⟩ : ∃ m, leastV a0 a1 b0 b1 ((cornersOf x0 x1 y0 y1).take 2) = m := ⟨_, rfl⟩
      obtain ⟨m1, hm1⟩ : ∃ m, mostV a0 a1 b0 b1 ((cornersOf x0 x1 y0 y1).take 2) = m := ⟨_, rfl⟩
      have HM0 := Aside0.mk (show leastV a0 a1 b0 b1 ((cornersOf x0 x1 y0 y1).take 3) = minI m0 (turnV a0 a1 b0 b1 x1 y0) from hm0 ▸ rfl)
      have HM1 := Aside0.mk (show mostV a0 a1 b0 b1 ((cornersOf x0 x1 y0 y1).take 3) = maxI m1 (turnV a0 a1 b0 b1 x1 y0) from hm1 ▸ rfl)
      rw [hm0, hm1]
      clear hm0 hm1
      have ix : ∀ w_ : World, (Instr.index 118 (.agg #[.int .i64 x0, .int .i64 y0, .int .i64 x0, .int .i64 y1, .int .i64 x1, .int .i64 y0, .int .i64 x1, .int .i64 y1]) (.int .i64 2)).run Try.prog w_ = .ok (.agg #[.int .i64 x1, .int .i64 y0]) w_ := fun _ => by kernel_rfl
      go_wp2
      go_region_held3 (fun W' => Below wr.heap.size wr W' ∧ W'.cell? ⟨w.heap.size, 0, none⟩ = some (.int .i64 a0) ∧ W'.cell? ⟨w.heap.size, 1, none⟩ = some (.int .i64 a1) ∧ W'.cell? ⟨w.heap.size + 1, 0, none⟩ = some (.int .i64 b0) ∧ W'.cell? ⟨w.heap.size + 1, 1, none⟩ = some (.int .i64 b1) ∧ W'.cell? ⟨wr.heap.size, 0, none⟩ = some (.int .i64 x1) ∧ W'.cell? ⟨wr.heap.size, 1, none⟩ = some (.int .i64 y0) ∧ wr.heap.size < W'.heap.size) ((first | assumption | exact TS.begin hgr q0 q1 q2 q3 | exact TS.step hgr (by assumption) hb5)) ((go_at_call 70; refine (geo_turn.calls a0 a1 b0 b1 x1 y0 _ _ (turn_some _ _ _ _ _ _)).mono ?_; rintro e_ w5 ⟨rfl, hb5⟩))
      all_goals go_wp2
      all_goals go_roundw
      all_goals first | exact ⟨3, by omega, by first | rfl | (simp; done) | omega, HM0.out.symm, HM1.out.symm, ⟨HB.out.trans ((‹Below wr.heap.size wr w5 ∧ _›).1.mono hzr)⟩⟩ | exact ⟨3, by omega, by first | rfl | (simp; done) | go_num, by rw [HM0.out], by rw [HM1.out], ⟨HB.out.trans ((‹Below wr.heap.size wr w5 ∧ _›).1.mono hzr)⟩⟩ | (simp [intOf]; done)
    · obtain ⟨m0, hm0⟩ : ∃ m, leastV a0 a1 b0 b1 ((cornersOf x0 x1 y0 y1).take 3) = m := ⟨_, rfl⟩
      obtain ⟨m1, hm1⟩ : ∃ m, mostV a0 a1 b0 b1 ((cornersOf x0 x1 y0 y1).take 3) = m := ⟨_, rfl⟩
      have HM0 := Aside0.mk (show leastV a0 a1 b0 b1 ((cornersOf x0 x1 y0 y1).take 4) = minI m0 (turnV a0 a1 b0 b1 x1 y1) from hm0 ▸ rfl)
      have HM1 := Aside0.mk (show mostV a0 a1 b0 b1 ((cornersOf x0 x1 y0 y1).take 4) = maxI m1 (turnV a0 a1 b0 b1 x1 y1) from hm1 ▸ rfl)
      rw [hm0, hm1]
      clear hm0 hm1
      have ix : ∀ w_ : World, (Instr.index 118 (.agg #[.int .i64 x0, .int .i64 y0, .int .i64 x0, .int .i64 y1, .int .i64 x1, .int .i64 y0, .int .i64 x1, .int .i64 y1]) (.int .i64 3)).run Try.prog w_ = .ok (.agg #[.int .i64 x1, .int .i64 y1]) w_ := fun _ => by kernel_rfl
      go_wp2
      go_region_held3 (fun W' => Below wr.heap.size wr W' ∧ W'.cell? ⟨w.heap.size, 0, none⟩ = some (.int .i64 a0) ∧ W'.cell? ⟨w.heap.size, 1, none⟩ = some (.int .i64 a1) ∧ W'.cell? ⟨w.heap.size + 1, 0, none⟩ = some (.int .i64 b0) ∧ W'.cell? ⟨w.heap.size + 1, 1, none⟩ = some (.int .i64 b1) ∧ W'.cell? ⟨wr.heap.size, 0, none⟩ = some (.int .i64 x1) ∧ W'.cell? ⟨wr.heap.size, 1, none⟩ = some (.int .i64 y1) ∧ wr.heap.size < W'.heap.size) ((first | assumption | exact TS.begin hgr q0 q1 q2 q3 | exact TS.step hgr (by assumption) hb5)) ((go_at_call 70; refine (geo_turn.calls a0 a1 b0 b1 x1 y1 _ _ (turn_some _ _ _ _ _ _)).mono ?_; rintro e_ w5 ⟨rfl, hb5⟩))
      all_goals go_wp2
      all_goals go_roundw
      all_goals first | exact ⟨4, by omega, by first | rfl | (simp; done) | omega, HM0.out.symm, HM1.out.symm, ⟨HB.out.trans ((‹Below wr.heap.size wr w5 ∧ _›).1.mono hzr)⟩⟩ | exact ⟨4, by omega, by first | rfl | (simp; done) | go_num, by rw [HM0.out], by rw [HM1.out], ⟨HB.out.trans ((‹Below wr.heap.size wr w5 ∧ _›).1.mono hzr)⟩⟩ | (simp [intOf]; done)
    · have hr := H.out
      have hzw : w.heap.size ≤ w4.heap.size := by omega
      change ((if leastV a0 a1 b0 b1 ((cornersOf x0 x1 y0 y1).take 4) ≤ 0 then decide (mostV a0 a1 b0 b1 ((cornersOf x0 x1 y0 y1).take 4) ≥ 0) else false, 0) = (r1, r2)) at hr
      generalize leastV a0 a1 b0 b1 ((cornersOf x0 x1 y0 y1).take 4) = m0 at hr ⊢
      generalize mostV a0 a1 b0 b1 ((cornersOf x0 x1 y0 y1).take 4) = m1 at hr ⊢
      have H := Aside0.mk hr
      clear hr
      by_cases e7 : m0 ≤ 0
      · have e7b : decide (m0 ≤ 0) = true := decide_eq_true e7
        replace H : Aside0 _ := ⟨by have hr := H.out; rw [if_pos e7] at hr; exact hr⟩
        go_wp2
        go_ret2
        exact ⟨by cases H.out; rfl, hB4.trans (HB.out.mono hzw)⟩
      · have e7b : decide (m0 ≤ 0) = false := decide_eq_false e7
        replace H : Aside0 _ := ⟨by have hr := H.out; rw [if_neg e7] at hr; exact hr⟩
        go_wp2
        go_ret2
        exact ⟨by cases H.out; rfl, hB4.trans (HB.out.mono hzw)⟩
end Go.Proofs.Ytjalkjeldlchoaa.X
end
section
set_option linter.unusedSectionVars false
set_option linter.unusedSimpArgs false
set_option linter.unusedVariables false
namespace Go.Proofs.Ytjalkjeldlchoaa.Ex
open Go
set_option linter.unusedVariables false
noncomputable def rs_l0 : Code := loopAt Try.prog 38 0
theorem rs_l0_calm : calmC rs_l0 = true := loopAt_calm tcalm 38 0
noncomputable def rs_l0C : Code := .loop rs_l0
noncomputable def rs_l1 : Code := loopAt Try.prog 38 1
theorem rs_l1_calm : calmC rs_l1 = true := loopAt_calm tcalm 38 1
noncomputable def rs_l1C : Code := .loop rs_l1
noncomputable def rs_l2 : Code := loopAt Try.prog 38 2
theorem rs_l2_calm : calmC rs_l2 = true := loopAt_calm tcalm 38 2
noncomputable def rs_l2C : Code := .loop rs_l2
noncomputable def rs_l3 : Code := loopAt Try.prog 38 3
theorem rs_l3_calm : calmC rs_l3 = true := loopAt_calm tcalm 38 3
noncomputable def rs_l3C : Code := .loop rs_l3
def frS0 (n c : Nat) (i : Int) : Fr := frOf 54 [(0, sl0 n c), (3, .int .i64 n), (4, .int .i64 i)]
def frS1 (n c : Nat) (i : Int) : Fr := frOf 54 [(0, sl0 n c), (3, .int .i64 n), (5, .int .i64 i)]
def frS2 (n c : Nat) (i : Int) : Fr := frOf 54 [(0, sl0 n c), (3, .int .i64 n), (6, .int .i64 i)]
def frS3 (n c : Nat) (i j : Int) : Fr := frOf 54 [(0, sl0 n c), (3, .int .i64 n), (6, .int .i64 i), (7, .int .i64 j)]
def frSR (v : Int) : Fr := frOf 54 [(2, .int .i64 v)]
def keepS (k : List Nat) : Xt → List Nat
  | .ret => [2]
  | _ => k
section
variable (n c : Nat) (cs : List Value) (i x y : Int) (hi : 0 ≤ i ∧ i < (↑n : Int)) (hn : n ≤ 64) (hl : List.length cs = n * 2) (hm : 0 ≤ (i + 1) % (↑n : Int) ∧ (i + 1) % (↑n : Int) < (↑n : Int)) (hA : ptAt cs ((i + 1) % (↑n : Int)) x y)
include n c cs i x y hi hn hl hm hA
theorem next_ok_p : go (exec (Try.prog) (8) (72) ([sl0 n c, .int .i64 i]) ([.ro 39 cs])) [(7, Itm.val (.int .i64 (i + 1))), (2, Itm.must), (0, Itm.val (.int .i64 ((i + 1) % (↑n : Int)))), (0, Itm.must), (1, Itm.must), (0, Itm.val ((a2 x y)))] = some (.mk ((a2 x y)) [.ro 39 cs] [], true, [Value.int .i64 (IntKind.wrap .i64 (i + 1)) = .int .i64 (i + 1), (true && decide ((↑n : Int) ≠ 0)) = true, Value.int .i64 (Int.tmod (i + 1) (↑n : Int)) = .int .i64 ((i + 1) % (↑n : Int)), inside ((i + 1) % (↑n : Int)) n = true, decide (0 + Int.toNat ((i + 1) % (↑n : Int)) * 2 + 2 ≤ List.length cs) = true, type_of% hA]) := by kernel_rfl
theorem next_ok (R : Res) (k_p : Res.le (.mk ((a2 x y)) [.ro 39 cs] []) R) : CallSpec (Try.prog) (72) ([sl0 n c, .int .i64 i]) ([.ro 39 cs]) R := by
  exact (CallSpec.id (go_ok (exec_ok tnamed tcalm tmixed _ _ _ _) (next_ok_p n c cs i x y hi hn hl hm hA ) (aC (congrArg (Value.int _) (Go.IntWalk.i64_in _ (by omega))) (aC ((by simp [ByteArray.size_append, ByteArray.size_extract, sz_mk] <;> omega)) (aC (congrArg (Value.int _) (Int.tmod_eq_emod_of_nonneg (by omega))) (aC (inside_of (by omega)) (aC dO (aC (hA) aN)))))))).le (k_p )
end
section
variable (n c : Nat) (cs : List Value) (i j a0 a1 b0 b1 c0 c1 d0 d1 : Int) (hi : 0 ≤ i ∧ i < j ∧ j < (↑n : Int)) (hn : n ≤ 64) (hl : List.length cs = n * 2) (hA : ptAt cs i a0 a1) (hC : ptAt cs j c0 c1) (kB : CallSpec Try.prog 72 [sl0 n c, .int .i64 i] [.ro 39 cs] (.mk (pV b0 b1) [.ro 39 cs] [])) (kD : CallSpec Try.prog 72 [sl0 n c, .int .i64 j] [.ro 39 cs] (.mk (pV d0 d1) [.ro 39 cs] []))
include n c cs i j a0 a1 b0 b1 c0 c1 d0 d1 hi hn hl hA hC kB kD
theorem rtang_ok_ptt : go (exec (Try.prog) (8) (73) ([sl0 n c, .int .i64 i, .int .i64 j]) ([.ro 39 cs])) [(5, Itm.must), (1, Itm.must), (0, Itm.val ((a2 a0 a1))), (10, .call (.mk ((a2 b0 b1)) [.ro 39 cs] [])), (12, Itm.must), (1, Itm.must), (0, Itm.val ((a2 c0 c1))), (10, .call (.mk ((a2 d0 d1)) [.ro 39 cs] [])), (16, Itm.val (.int .i64 (i + 1))), (2, .dec true), (6, .call (.mk (.bool (X.onV a0 a1 b0 b1 d0 d1)) [] [])), (3, .dec true), (0, .dec true), (0, .dec true), (0, .dec true), (0, .dec true)] = some (.mk (.bool true) [.ro 39 cs] [], true, [inside i n = true, decide (0 + Int.toNat i * 2 + 2 ≤ List.length cs) = true, type_of% hA, type_of% kB, inside j n = true, decide (0 + Int.toNat j * 2 + 2 ≤ List.length cs) = true, type_of% hC, type_of% kD, Value.int .i64 (IntKind.wrap .i64 (i + 1)) = .int .i64 (i + 1), decide (j = i + 1) = true, CallSpec Try.prog 76 [(a2 a0 a1), (a2 b0 b1), (a2 d0 d1)] [] (.mk (.bool (X.onV a0 a1 b0 b1 d0 d1)) [] []), X.onV a0 a1 b0 b1 d0 d1 = true, X.onV a0 a1 b0 b1 d0 d1 = true, X.onV a0 a1 b0 b1 d0 d1 = true, X.onV a0 a1 b0 b1 d0 d1 = true, X.onV a0 a1 b0 b1 d0 d1 = true]) := by kernel_rfl
theorem rtang_ok_ptf : go (exec (Try.prog) (8) (73) ([sl0 n c, .int .i64 i, .int .i64 j]) ([.ro 39 cs])) [(5, Itm.must), (1, Itm.must), (0, Itm.val ((a2 a0 a1))), (10, .call (.mk ((a2 b0 b1)) [.ro 39 cs] [])), (12, Itm.must), (1, Itm.must), (0, Itm.val ((a2 c0 c1))), (10, .call (.mk ((a2 d0 d1)) [.ro 39 cs] [])), (16, Itm.val (.int .i64 (i + 1))), (2, .dec true), (6, .call (.mk (.bool (X.onV a0 a1 b0 b1 d0 d1)) [] [])), (3, .dec false), (2, .dec false), (2, .dec false), (2, .dec false), (0, .call (.mk (.bool (X.onV c0 c1 d0 d1 a0 a1)) [] [])), (2, .dec false)] = some (.mk (.bool (X.onV c0 c1 d0 d1 a0 a1)) [.ro 39 cs] [], true, [inside i n = true, decide (0 + Int.toNat i * 2 + 2 ≤ List.length cs) = true, type_of% hA, type_of% kB, inside j n = true, decide (0 + Int.toNat j * 2 + 2 ≤ List.length cs) = true, type_of% hC, type_of% kD, Value.int .i64 (IntKind.wrap .i64 (i + 1)) = .int .i64 (i + 1), decide (j = i + 1) = true, CallSpec Try.prog 76 [(a2 a0 a1), (a2 b0 b1), (a2 d0 d1)] [] (.mk (.bool (X.onV a0 a1 b0 b1 d0 d1)) [] []), X.onV a0 a1 b0 b1 d0 d1 = false, X.onV a0 a1 b0 b1 d0 d1 = false, X.onV a0 a1 b0 b1 d0 d1 = false, X.onV a0 a1 b0 b1 d0 d1 = false, CallSpec Try.prog 76 [(a2 c0 c1), (a2 d0 d1), (a2 a0 a1)] [] (.mk (.bool (X.onV c0 c1 d0 d1 a0 a1)) [] []), X.onV a0 a1 b0 b1 d0 d1 = false]) := by kernel_rfl
theorem rtang_ok_pfttt : go (exec (Try.prog) (8) (73) ([sl0 n c, .int .i64 i, .int .i64 j]) ([.ro 39 cs])) [(5, Itm.must), (1, Itm.must), (0, Itm.val ((a2 a0 a1))), (10, .call (.mk ((a2 b0 b1)) [.ro 39 cs] [])), (12, Itm.must), (1, Itm.must), (0, Itm.val ((a2 c0 c1))), (10, .call (.mk ((a2 d0 d1)) [.ro 39 cs] [])), (16, Itm.val (.int .i64 (i + 1))), (2, .dec false), (3, .dec true), (1, .dec true), (1, .dec true), (0, Itm.val (.int .i64 ((↑n : Int) - 1))), (0, .dec true), (1, .dec true), (2, .dec true), (6, .call (.mk (.bool (X.onV a0 a1 b0 b1 c0 c1)) [] [])), (3, .dec true), (0, .dec true), (0, .dec true), (0, .dec true), (0, .dec true)] = some (.mk (.bool true) [.ro 39 cs] [], true, [inside i n = true, decide (0 + Int.toNat i * 2 + 2 ≤ List.length cs) = true, type_of% hA, type_of% kB, inside j n = true, decide (0 + Int.toNat j * 2 + 2 ≤ List.length cs) = true, type_of% hC, type_of% kD, Value.int .i64 (IntKind.wrap .i64 (i + 1)) = .int .i64 (i + 1), decide (j = i + 1) = false, decide (i = 0) = true, decide (i = 0) = true, decide (i = 0) = true, Value.int .i64 (IntKind.wrap .i64 ((↑n : Int) - 1)) = .int .i64 ((↑n : Int) - 1), decide (i = 0) = true, decide (i = 0) = true, decide (j = (↑n : Int) - 1) = true, CallSpec Try.prog 76 [(a2 a0 a1), (a2 b0 b1), (a2 c0 c1)] [] (.mk (.bool (X.onV a0 a1 b0 b1 c0 c1)) [] []), X.onV a0 a1 b0 b1 c0 c1 = true, X.onV a0 a1 b0 b1 c0 c1 = true, X.onV a0 a1 b0 b1 c0 c1 = true, X.onV a0 a1 b0 b1 c0 c1 = true, X.onV a0 a1 b0 b1 c0 c1 = true]) := by kernel_rfl
theorem rtang_ok_pfttf : go (exec (Try.prog) (8) (73) ([sl0 n c, .int .i64 i, .int .i64 j]) ([.ro 39 cs])) [(5, Itm.must), (1, Itm.must), (0, Itm.val ((a2 a0 a1))), (10, .call (.mk ((a2 b0 b1)) [.ro 39 cs] [])), (12, Itm.must), (1, Itm.must), (0, Itm.val ((a2 c0 c1))), (10, .call (.mk ((a2 d0 d1)) [.ro 39 cs] [])), (16, Itm.val (.int .i64 (i + 1))), (2, .dec false), (3, .dec true), (1, .dec true), (1, .dec true), (0, Itm.val (.int .i64 ((↑n : Int) - 1))), (0, .dec true), (1, .dec true), (2, .dec true), (6, .call (.mk (.bool (X.onV a0 a1 b0 b1 c0 c1)) [] [])), (3, .dec false), (2, .dec false), (2, .dec false), (2, .dec false), (0, .call (.mk (.bool (X.onV c0 c1 d0 d1 b0 b1)) [] [])), (2, .dec false)] = some (.mk (.bool (X.onV c0 c1 d0 d1 b0 b1)) [.ro 39 cs] [], true, [inside i n = true, decide (0 + Int.toNat i * 2 + 2 ≤ List.length cs) = true, type_of% hA, type_of% kB, inside j n = true, decide (0 + Int.toNat j * 2 + 2 ≤ List.length cs) = true, type_of% hC, type_of% kD, Value.int .i64 (IntKind.wrap .i64 (i + 1)) = .int .i64 (i + 1), decide (j = i + 1) = false, decide (i = 0) = true, decide (i = 0) = true, decide (i = 0) = true, Value.int .i64 (IntKind.wrap .i64 ((↑n : Int) - 1)) = .int .i64 ((↑n : Int) - 1), decide (i = 0) = true, decide (i = 0) = true, decide (j = (↑n : Int) - 1) = true, CallSpec Try.prog 76 [(a2 a0 a1), (a2 b0 b1), (a2 c0 c1)] [] (.mk (.bool (X.onV a0 a1 b0 b1 c0 c1)) [] []), X.onV a0 a1 b0 b1 c0 c1 = false, X.onV a0 a1 b0 b1 c0 c1 = false, X.onV a0 a1 b0 b1 c0 c1 = false, X.onV a0 a1 b0 b1 c0 c1 = false, CallSpec Try.prog 76 [(a2 c0 c1), (a2 d0 d1), (a2 b0 b1)] [] (.mk (.bool (X.onV c0 c1 d0 d1 b0 b1)) [] []), X.onV a0 a1 b0 b1 c0 c1 = false]) := by kernel_rfl
theorem rtang_ok_pftf : go (exec (Try.prog) (8) (73) ([sl0 n c, .int .i64 i, .int .i64 j]) ([.ro 39 cs])) [(5, Itm.must), (1, Itm.must), (0, Itm.val ((a2 a0 a1))), (10, .call (.mk ((a2 b0 b1)) [.ro 39 cs] [])), (12, Itm.must), (1, Itm.must), (0, Itm.val ((a2 c0 c1))), (10, .call (.mk ((a2 d0 d1)) [.ro 39 cs] [])), (16, Itm.val (.int .i64 (i + 1))), (2, .dec false), (3, .dec true), (1, .dec true), (1, .dec true), (0, Itm.val (.int .i64 ((↑n : Int) - 1))), (0, .dec true), (1, .dec true), (2, .dec false), (8, .call (.mk (.bool (X.commonV a0 a1 b0 b1 c0 c1 d0 d1)) [] []))] = some (.mk (.bool (X.commonV a0 a1 b0 b1 c0 c1 d0 d1)) [.ro 39 cs] [], true, [inside i n = true, decide (0 + Int.toNat i * 2 + 2 ≤ List.length cs) = true, type_of% hA, type_of% kB, inside j n = true, decide (0 + Int.toNat j * 2 + 2 ≤ List.length cs) = true, type_of% hC, type_of% kD, Value.int .i64 (IntKind.wrap .i64 (i + 1)) = .int .i64 (i + 1), decide (j = i + 1) = false, decide (i = 0) = true, decide (i = 0) = true, decide (i = 0) = true, Value.int .i64 (IntKind.wrap .i64 ((↑n : Int) - 1)) = .int .i64 ((↑n : Int) - 1), decide (i = 0) = true, decide (i = 0) = true, decide (j = (↑n : Int) - 1) = false, CallSpec Try.prog 91 [(a2 a0 a1), (a2 b0 b1), (a2 c0 c1), (a2 d0 d1)] [] (.mk (.bool (X.commonV a0 a1 b0 b1 c0 c1 d0 d1)) [] [])]) := by kernel_rfl
theorem rtang_ok_pff : go (exec (Try.prog) (8) (73) ([sl0 n c, .int .i64 i, .int .i64 j]) ([.ro 39 cs])) [(5, Itm.must), (1, Itm.must), (0, Itm.val ((a2 a0 a1))), (10, .call (.mk ((a2 b0 b1)) [.ro 39 cs] [])), (12, Itm.must), (1, Itm.must), (0, Itm.val ((a2 c0 c1))), (10, .call (.mk ((a2 d0 d1)) [.ro 39 cs] [])), (16, Itm.val (.int .i64 (i + 1))), (2, .dec false), (3, .dec false), (0, .dec false), (0, .dec false), (0, .dec false), (0, .dec false), (11, .call (.mk (.bool (X.commonV a0 a1 b0 b1 c0 c1 d0 d1)) [] []))] = some (.mk (.bool (X.commonV a0 a1 b0 b1 c0 c1 d0 d1)) [.ro 39 cs] [], true, [inside i n = true, decide (0 + Int.toNat i * 2 + 2 ≤ List.length cs) = true, type_of% hA, type_of% kB, inside j n = true, decide (0 + Int.toNat j * 2 + 2 ≤ List.length cs) = true, type_of% hC, type_of% kD, Value.int .i64 (IntKind.wrap .i64 (i + 1)) = .int .i64 (i + 1), decide (j = i + 1) = false, decide (i = 0) = false, decide (i = 0) = false, decide (i = 0) = false, decide (i = 0) = false, decide (i = 0) = false, CallSpec Try.prog 91 [(a2 a0 a1), (a2 b0 b1), (a2 c0 c1), (a2 d0 d1)] [] (.mk (.bool (X.commonV a0 a1 b0 b1 c0 c1 d0 d1)) [] [])]) := by kernel_rfl
theorem rtang_ok (R : Res) (k_ptt : (h0 : j = i + 1) → (h1 : X.onV a0 a1 b0 b1 d0 d1 = true) → Res.le (.mk (.bool true) [.ro 39 cs] []) R) (k_ptf : (h0 : j = i + 1) → (h1 : ¬ (X.onV a0 a1 b0 b1 d0 d1 = true)) → Res.le (.mk (.bool (X.onV c0 c1 d0 d1 a0 a1)) [.ro 39 cs] []) R) (k_pfttt : (h0 : ¬ (j = i + 1)) → (h1 : i = 0) → (h2 : j = (↑n : Int) - 1) → (h3 : X.onV a0 a1 b0 b1 c0 c1 = true) → Res.le (.mk (.bool true) [.ro 39 cs] []) R) (k_pfttf : (h0 : ¬ (j = i + 1)) → (h1 : i = 0) → (h2 : j = (↑n : Int) - 1) → (h3 : ¬ (X.onV a0 a1 b0 b1 c0 c1 = true)) → Res.le (.mk (.bool (X.onV c0 c1 d0 d1 b0 b1)) [.ro 39 cs] []) R) (k_pftf : (h0 : ¬ (j = i + 1)) → (h1 : i = 0) → (h2 : ¬ (j = (↑n : Int) - 1)) → Res.le (.mk (.bool (X.commonV a0 a1 b0 b1 c0 c1 d0 d1)) [.ro 39 cs] []) R) (k_pff : (h0 : ¬ (j = i + 1)) → (h1 : ¬ (i = 0)) → Res.le (.mk (.bool (X.commonV a0 a1 b0 b1 c0 c1 d0 d1)) [.ro 39 cs] []) R) : CallSpec (Try.prog) (73) ([sl0 n c, .int .i64 i, .int .i64 j]) ([.ro 39 cs]) R := by
  by_cases h0 : j = i + 1
  · by_cases h1 : X.onV a0 a1 b0 b1 d0 d1 = true
    · exact (CallSpec.id (go_ok (exec_ok tnamed tcalm tmixed _ _ _ _) (rtang_ok_ptt n c cs i j a0 a1 b0 b1 c0 c1 d0 d1 hi hn hl hA hC kB kD ) (aC (inside_of (by omega)) (aC dO (aC (hA) (aC (kB) (aC (inside_of (by omega)) (aC dO (aC (hC) (aC (kD) (aC (congrArg (Value.int _) (Go.IntWalk.i64_in _ (by omega))) (aC (dTq h0) (aC ((on_done _ _ _ _ _ _)) (aC (h1) (aC (h1) (aC (h1) (aC (h1) (aC (h1) aN)))))))))))))))))).le (k_ptt h0 h1)
    · exact (CallSpec.id (go_ok (exec_ok tnamed tcalm tmixed _ _ _ _) (rtang_ok_ptf n c cs i j a0 a1 b0 b1 c0 c1 d0 d1 hi hn hl hA hC kB kD ) (aC (inside_of (by omega)) (aC dO (aC (hA) (aC (kB) (aC (inside_of (by omega)) (aC dO (aC (hC) (aC (kD) (aC (congrArg (Value.int _) (Go.IntWalk.i64_in _ (by omega))) (aC (dTq h0) (aC ((on_done _ _ _ _ _ _)) (aC ((bF h1)) (aC ((bF h1)) (aC ((bF h1)) (aC ((bF h1)) (aC ((on_done _ _ _ _ _ _)) (aC ((bF h1)) aN))))))))))))))))))).le (k_ptf h0 h1)
  · by_cases h1 : i = 0
    · by_cases h2 : j = (↑n : Int) - 1
      · by_cases h3 : X.onV a0 a1 b0 b1 c0 c1 = true
        · exact (CallSpec.id (go_ok (exec_ok tnamed tcalm tmixed _ _ _ _) (rtang_ok_pfttt n c cs i j a0 a1 b0 b1 c0 c1 d0 d1 hi hn hl hA hC kB kD ) (aC (inside_of (by omega)) (aC dO (aC (hA) (aC (kB) (aC (inside_of (by omega)) (aC dO (aC (hC) (aC (kD) (aC (congrArg (Value.int _) (Go.IntWalk.i64_in _ (by omega))) (aC (dFq h0) (aC (dTq h1) (aC (dTq h1) (aC (dTq h1) (aC (congrArg (Value.int _) (Go.IntWalk.i64_in _ (by omega))) (aC (dTq h1) (aC (dTq h1) (aC (dTq h2) (aC ((on_done _ _ _ _ _ _)) (aC (h3) (aC (h3) (aC (h3) (aC (h3) (aC (h3) aN))))))))))))))))))))))))).le (k_pfttt h0 h1 h2 h3)
        · exact (CallSpec.id (go_ok (exec_ok tnamed tcalm tmixed _ _ _ _) (rtang_ok_pfttf n c cs i j a0 a1 b0 b1 c0 c1 d0 d1 hi hn hl hA hC kB kD ) (aC (inside_of (by omega)) (aC dO (aC (hA) (aC (kB) (aC (inside_of (by omega)) (aC dO (aC (hC) (aC (kD) (aC (congrArg (Value.int _) (Go.IntWalk.i64_in _ (by omega))) (aC (dFq h0) (aC (dTq h1) (aC (dTq h1) (aC (dTq h1) (aC (congrArg (Value.int _) (Go.IntWalk.i64_in _ (by omega))) (aC (dTq h1) (aC (dTq h1) (aC (dTq h2) (aC ((on_done _ _ _ _ _ _)) (aC ((bF h3)) (aC ((bF h3)) (aC ((bF h3)) (aC ((bF h3)) (aC ((on_done _ _ _ _ _ _)) (aC ((bF h3)) aN)))))))))))))))))))))))))).le (k_pfttf h0 h1 h2 h3)
      · exact (CallSpec.id (go_ok (exec_ok tnamed tcalm tmixed _ _ _ _) (rtang_ok_pftf n c cs i j a0 a1 b0 b1 c0 c1 d0 d1 hi hn hl hA hC kB kD ) (aC (inside_of (by omega)) (aC dO (aC (hA) (aC (kB) (aC (inside_of (by omega)) (aC dO (aC (hC) (aC (kD) (aC (congrArg (Value.int _) (Go.IntWalk.i64_in _ (by omega))) (aC (dFq h0) (aC (dTq h1) (aC (dTq h1) (aC (dTq h1) (aC (congrArg (Value.int _) (Go.IntWalk.i64_in _ (by omega))) (aC (dTq h1) (aC (dTq h1) (aC (dFq h2) (aC ((common_done _ _ _ _ _ _ _ _)) aN)))))))))))))))))))).le (k_pftf h0 h1 h2)
    · exact (CallSpec.id (go_ok (exec_ok tnamed tcalm tmixed _ _ _ _) (rtang_ok_pff n c cs i j a0 a1 b0 b1 c0 c1 d0 d1 hi hn hl hA hC kB kD ) (aC (inside_of (by omega)) (aC dO (aC (hA) (aC (kB) (aC (inside_of (by omega)) (aC dO (aC (hC) (aC (kD) (aC (congrArg (Value.int _) (Go.IntWalk.i64_in _ (by omega))) (aC (dFq h0) (aC (dFq h1) (aC (dFq h1) (aC (dFq h1) (aC (dFq h1) (aC (dFq h1) (aC ((common_done _ _ _ _ _ _ _ _)) aN)))))))))))))))))).le (k_pff h0 h1)
end
section
variable (n c : Nat) (cs : List Value) (i x y : Int) (hi : 0 ≤ i ∧ i ≤ (↑n : Int)) (hn : n ≤ 64) (hl : List.length cs = n * 2) (hA : i < (↑n : Int) → ptAt cs i x y)
include n c cs i x y hi hn hl hA
theorem rs0_ok_ptt : go (body (Try.prog) (8) (1) (8) (keepS [0, 3, 4]) (rs_l0) (frS0 n c i) ([.ro 39 cs])) [(4, .dec true), (2, Itm.must), (1, Itm.must), (0, Itm.val ((a2 x y))), (0, .call (.mk (.bool !X.outP (X.S23.mk x y)) [] [])), (4, .dec true)] = some (Out.mk Xt.ret (frOf 54 [(2, .int .i64 5)]) [.ro 39 cs] [], true, [decide (i < (↑n : Int)) = true, inside i n = true, decide (0 + Int.toNat i * 2 + 2 ≤ List.length cs) = true, Value.agg (List.toArray (List.take 2 (List.drop (0 + Int.toNat i * 2) cs))) = (a2 x y), CallSpec Try.prog 49 [(a2 x y)] [] (.mk (.bool !X.outP (X.S23.mk x y)) [] []), (!!X.outP (X.S23.mk x y)) = true]) := by kernel_rfl
theorem rs0_ok_ptf : go (body (Try.prog) (8) (1) (8) (keepS [0, 3, 4]) (rs_l0) (frS0 n c i) ([.ro 39 cs])) [(4, .dec true), (2, Itm.must), (1, Itm.must), (0, Itm.val ((a2 x y))), (0, .call (.mk (.bool !X.outP (X.S23.mk x y)) [] [])), (4, .dec false), (1, Itm.val (.int .i64 (i + 1)))] = some (Out.mk Xt.normal (frOf 54 [(0, (sB 0 n c)), (3, .int .i64 (↑n : Int)), (4, .int .i64 (i + 1))]) [.ro 39 cs] [], true, [decide (i < (↑n : Int)) = true, inside i n = true, decide (0 + Int.toNat i * 2 + 2 ≤ List.length cs) = true, Value.agg (List.toArray (List.take 2 (List.drop (0 + Int.toNat i * 2) cs))) = (a2 x y), CallSpec Try.prog 49 [(a2 x y)] [] (.mk (.bool !X.outP (X.S23.mk x y)) [] []), (!!X.outP (X.S23.mk x y)) = false, Value.int .i64 (IntKind.wrap .i64 (i + 1)) = .int .i64 (i + 1)]) := by kernel_rfl
theorem rs0_ok_pf : go (body (Try.prog) (8) (1) (8) (keepS [0, 3, 4]) (rs_l0) (frS0 n c i) ([.ro 39 cs])) [(4, .dec false)] = some (Out.mk (Xt.exit 0) (frOf 54 [(0, (sB 0 n c)), (3, .int .i64 (↑n : Int)), (4, .int .i64 i)]) [.ro 39 cs] [], true, [decide (i < (↑n : Int)) = false]) := by kernel_rfl
theorem rs0_ok (R : Out) (k_ptt : (h0 : i < (↑n : Int)) → (h1 : (!!X.outP (X.S23.mk x y)) = true) → Out.le (Out.mk Xt.ret (frOf 54 [(2, .int .i64 5)]) [.ro 39 cs] []) R) (k_ptf : (h0 : i < (↑n : Int)) → (h1 : ¬ ((!!X.outP (X.S23.mk x y)) = true)) → Out.le (Out.mk Xt.normal (frOf 54 [(0, (sB 0 n c)), (3, .int .i64 (↑n : Int)), (4, .int .i64 (i + 1))]) [.ro 39 cs] []) R) (k_pf : (h0 : ¬ (i < (↑n : Int))) → Out.le (Out.mk (Xt.exit 0) (frOf 54 [(0, (sB 0 n c)), (3, .int .i64 (↑n : Int)), (4, .int .i64 i)]) [.ro 39 cs] []) R) : CodeSpec (Try.prog) (1) (rs_l0) (frS0 n c i) ([.ro 39 cs]) R := by
  by_cases h0 : i < (↑n : Int)
  · by_cases h1 : (!!X.outP (X.S23.mk x y)) = true
    · exact (CodeSpec.id (go_ok (body_ok tnamed tcalm tmixed _ _ _ _ _ _ rs_l0_calm) (rs0_ok_ptt n c cs i x y hi hn hl hA ) (aC (dTq h0) (aC (inside_of (by omega)) (aC dO (aC ((hA (by omega))) (aC ((fits_done _ _)) (aC (h1) aN)))))))).le (k_ptt h0 h1)
    · exact (CodeSpec.id (go_ok (body_ok tnamed tcalm tmixed _ _ _ _ _ _ rs_l0_calm) (rs0_ok_ptf n c cs i x y hi hn hl hA ) (aC (dTq h0) (aC (inside_of (by omega)) (aC dO (aC ((hA (by omega))) (aC ((fits_done _ _)) (aC ((bF h1)) (aC (congrArg (Value.int _) (Go.IntWalk.i64_in _ (by omega))) aN))))))))).le (k_ptf h0 h1)
  · exact (CodeSpec.id (go_ok (body_ok tnamed tcalm tmixed _ _ _ _ _ _ rs_l0_calm) (rs0_ok_pf n c cs i x y hi hn hl hA ) (aC (dFq h0) aN))).le (k_pf h0)
end
section
variable (n c : Nat) (cs : List Value) (i x y p q : Int) (hi : 0 ≤ i ∧ i ≤ (↑n : Int)) (hn : n ≤ 64) (hl : List.length cs = n * 2) (hA : i < (↑n : Int) → ptAt cs i x y) (kB : i < (↑n : Int) → CallSpec Try.prog 72 [sl0 n c, .int .i64 i] [.ro 39 cs] (.mk (pV p q) [.ro 39 cs] []))
include n c cs i x y p q hi hn hl hA kB
theorem rs1_ok_ptt : go (body (Try.prog) (8) (1) (8) (keepS [0, 3, 5]) (rs_l1) (frS1 n c i) ([.ro 39 cs])) [(4, .dec true), (2, Itm.must), (1, Itm.must), (0, Itm.val ((a2 x y))), (2, .call (.mk ((a2 p q)) [.ro 39 cs] [])), (5, .dec true)] = some (Out.mk Xt.ret (frOf 54 [(2, .int .i64 91)]) [.ro 39 cs] [], true, [decide (i < (↑n : Int)) = true, inside i n = true, decide (0 + Int.toNat i * 2 + 2 ≤ List.length cs) = true, Value.agg (List.toArray (List.take 2 (List.drop (0 + Int.toNat i * 2) cs))) = (a2 x y), CallSpec Try.prog 72 [(sB 0 n c), .int .i64 i] [.ro 39 cs] (.mk ((a2 p q)) [.ro 39 cs] []), (decide (x = p) && (decide (y = q) && true)) = true]) := by kernel_rfl
theorem rs1_ok_ptf : go (body (Try.prog) (8) (1) (8) (keepS [0, 3, 5]) (rs_l1) (frS1 n c i) ([.ro 39 cs])) [(4, .dec true), (2, Itm.must), (1, Itm.must), (0, Itm.val ((a2 x y))), (2, .call (.mk ((a2 p q)) [.ro 39 cs] [])), (5, .dec false), (1, Itm.val (.int .i64 (i + 1)))] = some (Out.mk Xt.normal (frOf 54 [(0, (sB 0 n c)), (3, .int .i64 (↑n : Int)), (5, .int .i64 (i + 1))]) [.ro 39 cs] [], true, [decide (i < (↑n : Int)) = true, inside i n = true, decide (0 + Int.toNat i * 2 + 2 ≤ List.length cs) = true, Value.agg (List.toArray (List.take 2 (List.drop (0 + Int.toNat i * 2) cs))) = (a2 x y), CallSpec Try.prog 72 [(sB 0 n c), .int .i64 i] [.ro 39 cs] (.mk ((a2 p q)) [.ro 39 cs] []), (decide (x = p) && (decide (y = q) && true)) = false, Value.int .i64 (IntKind.wrap .i64 (i + 1)) = .int .i64 (i + 1)]) := by kernel_rfl
theorem rs1_ok_pf : go (body (Try.prog) (8) (1) (8) (keepS [0, 3, 5]) (rs_l1) (frS1 n c i) ([.ro 39 cs])) [(4, .dec false)] = some (Out.mk (Xt.exit 2) (frOf 54 [(0, (sB 0 n c)), (3, .int .i64 (↑n : Int)), (5, .int .i64 i)]) [.ro 39 cs] [], true, [decide (i < (↑n : Int)) = false]) := by kernel_rfl
theorem rs1_ok (R : Out) (k_ptt : (h0 : i < (↑n : Int)) → (h1 : (decide (x = p) && (decide (y = q) && true)) = true) → Out.le (Out.mk Xt.ret (frOf 54 [(2, .int .i64 91)]) [.ro 39 cs] []) R) (k_ptf : (h0 : i < (↑n : Int)) → (h1 : ¬ ((decide (x = p) && (decide (y = q) && true)) = true)) → Out.le (Out.mk Xt.normal (frOf 54 [(0, (sB 0 n c)), (3, .int .i64 (↑n : Int)), (5, .int .i64 (i + 1))]) [.ro 39 cs] []) R) (k_pf : (h0 : ¬ (i < (↑n : Int))) → Out.le (Out.mk (Xt.exit 2) (frOf 54 [(0, (sB 0 n c)), (3, .int .i64 (↑n : Int)), (5, .int .i64 i)]) [.ro 39 cs] []) R) : CodeSpec (Try.prog) (1) (rs_l1) (frS1 n c i) ([.ro 39 cs]) R := by
  by_cases h0 : i < (↑n : Int)
  · by_cases h1 : (decide (x = p) && (decide (y = q) && true)) = true
    · exact (CodeSpec.id (go_ok (body_ok tnamed tcalm tmixed _ _ _ _ _ _ rs_l1_calm) (rs1_ok_ptt n c cs i x y p q hi hn hl hA kB ) (aC (dTq h0) (aC (inside_of (by omega)) (aC dO (aC ((hA (by omega))) (aC ((kB (by omega))) (aC (h1) aN)))))))).le (k_ptt h0 h1)
    · exact (CodeSpec.id (go_ok (body_ok tnamed tcalm tmixed _ _ _ _ _ _ rs_l1_calm) (rs1_ok_ptf n c cs i x y p q hi hn hl hA kB ) (aC (dTq h0) (aC (inside_of (by omega)) (aC dO (aC ((hA (by omega))) (aC ((kB (by omega))) (aC ((bF h1)) (aC (congrArg (Value.int _) (Go.IntWalk.i64_in _ (by omega))) aN))))))))).le (k_ptf h0 h1)
  · exact (CodeSpec.id (go_ok (body_ok tnamed tcalm tmixed _ _ _ _ _ _ rs_l1_calm) (rs1_ok_pf n c cs i x y p q hi hn hl hA kB ) (aC (dFq h0) aN))).le (k_pf h0)
end
section
variable (n c : Nat) (cs : List Value) (i j : Int) (t : Bool) (hi : 0 ≤ i ∧ i < j ∧ j ≤ (↑n : Int)) (hn : n ≤ 64) (kB : j < (↑n : Int) → CallSpec Try.prog 73 [sl0 n c, .int .i64 i, .int .i64 j] [.ro 39 cs] (.mk (.bool t) [.ro 39 cs] []))
include n c cs i j t hi hn kB
theorem rs3_ok_ptt : go (body (Try.prog) (8) (1) (8) (keepS [0, 3, 6, 7]) (rs_l3) (frS3 n c i j) ([.ro 39 cs])) [(4, .dec true), (3, .call (.mk (.bool t) [.ro 39 cs] [])), (3, .dec true)] = some (Out.mk Xt.ret (frOf 54 [(2, .int .i64 92)]) [.ro 39 cs] [], true, [decide (j < (↑n : Int)) = true, CallSpec Try.prog 73 [(sB 0 n c), .int .i64 i, .int .i64 j] [.ro 39 cs] (.mk (.bool t) [.ro 39 cs] []), t = true]) := by kernel_rfl
theorem rs3_ok_ptf : go (body (Try.prog) (8) (1) (8) (keepS [0, 3, 6, 7]) (rs_l3) (frS3 n c i j) ([.ro 39 cs])) [(4, .dec true), (3, .call (.mk (.bool t) [.ro 39 cs] [])), (3, .dec false), (1, Itm.val (.int .i64 (j + 1)))] = some (Out.mk Xt.normal (frOf 54 [(0, (sB 0 n c)), (3, .int .i64 (↑n : Int)), (6, .int .i64 i), (7, .int .i64 (j + 1))]) [.ro 39 cs] [], true, [decide (j < (↑n : Int)) = true, CallSpec Try.prog 73 [(sB 0 n c), .int .i64 i, .int .i64 j] [.ro 39 cs] (.mk (.bool t) [.ro 39 cs] []), t = false, Value.int .i64 (IntKind.wrap .i64 (j + 1)) = .int .i64 (j + 1)]) := by kernel_rfl
theorem rs3_ok_pf : go (body (Try.prog) (8) (1) (8) (keepS [0, 3, 6, 7]) (rs_l3) (frS3 n c i j) ([.ro 39 cs])) [(4, .dec false)] = some (Out.mk (Xt.exit 6) (frOf 54 [(0, (sB 0 n c)), (3, .int .i64 (↑n : Int)), (6, .int .i64 i), (7, .int .i64 j)]) [.ro 39 cs] [], true, [decide (j < (↑n : Int)) = false]) := by kernel_rfl
theorem rs3_ok (R : Out) (k_ptt : (h0 : j < (↑n : Int)) → (h1 : t = true) → Out.le (Out.mk Xt.ret (frOf 54 [(2, .int .i64 92)]) [.ro 39 cs] []) R) (k_ptf : (h0 : j < (↑n : Int)) → (h1 : ¬ (t = true)) → Out.le (Out.mk Xt.normal (frOf 54 [(0, (sB 0 n c)), (3, .int .i64 (↑n : Int)), (6, .int .i64 i), (7, .int .i64 (j + 1))]) [.ro 39 cs] []) R) (k_pf : (h0 : ¬ (j < (↑n : Int))) → Out.le (Out.mk (Xt.exit 6) (frOf 54 [(0, (sB 0 n c)), (3, .int .i64 (↑n : Int)), (6, .int .i64 i), (7, .int .i64 j)]) [.ro 39 cs] []) R) : CodeSpec (Try.prog) (1) (rs_l3) (frS3 n c i j) ([.ro 39 cs]) R := by
  by_cases h0 : j < (↑n : Int)
  · by_cases h1 : t = true
    · exact (CodeSpec.id (go_ok (body_ok tnamed tcalm tmixed _ _ _ _ _ _ rs_l3_calm) (rs3_ok_ptt n c cs i j t hi hn kB ) (aC (dTq h0) (aC ((kB (by omega))) (aC (h1) aN))))).le (k_ptt h0 h1)
    · exact (CodeSpec.id (go_ok (body_ok tnamed tcalm tmixed _ _ _ _ _ _ rs_l3_calm) (rs3_ok_ptf n c cs i j t hi hn kB ) (aC (dTq h0) (aC ((kB (by omega))) (aC ((bF h1)) (aC (congrArg (Value.int _) (Go.IntWalk.i64_in _ (by omega))) aN)))))).le (k_ptf h0 h1)
  · exact (CodeSpec.id (go_ok (body_ok tnamed tcalm tmixed _ _ _ _ _ _ rs_l3_calm) (rs3_ok_pf n c cs i j t hi hn kB ) (aC (dFq h0) aN))).le (k_pf h0)
end
section
variable (n c : Nat) (cs : List Value) (i : Int) (hi : 0 ≤ i ∧ i < (↑n : Int)) (hn : n ≤ 64) (hL : CodeSpec Try.prog 1 rs_l3C (frS3 n c i (i + 1)) [.ro 39 cs] (Out.mk (Xt.exit 6) (frS3 n c i (↑n : Int)) [.ro 39 cs] []))
include n c cs i hi hn hL
theorem rs2F_ok_p : go (body (Try.prog) (8) (1) (8) (keepS [0, 3, 6]) (rs_l2) (frS2 n c i) ([.ro 39 cs])) [(4, .dec true), (1, Itm.val (.int .i64 (i + 1))), (2, Itm.loop [0, 3, 6, 7] (Out.mk (Xt.exit 6) (frOf 54 [(0, (sB 0 n c)), (3, .int .i64 (↑n : Int)), (6, .int .i64 i), (7, .int .i64 (↑n : Int))]) [.ro 39 cs] [])), (1, Itm.val (.int .i64 (i + 1)))] = some (Out.mk Xt.normal (frOf 54 [(0, (sB 0 n c)), (3, .int .i64 (↑n : Int)), (6, .int .i64 (i + 1))]) [.ro 39 cs] [], true, [decide (i < (↑n : Int)) = true, Value.int .i64 (IntKind.wrap .i64 (i + 1)) = .int .i64 (i + 1), type_of% hL, Value.int .i64 (IntKind.wrap .i64 (i + 1)) = .int .i64 (i + 1)]) := by kernel_rfl
theorem rs2F_ok (R : Out) (k_p : Out.le (Out.mk Xt.normal (frOf 54 [(0, (sB 0 n c)), (3, .int .i64 (↑n : Int)), (6, .int .i64 (i + 1))]) [.ro 39 cs] []) R) : CodeSpec (Try.prog) (1) (rs_l2) (frS2 n c i) ([.ro 39 cs]) R := by
  exact (CodeSpec.id (go_ok (body_ok tnamed tcalm tmixed _ _ _ _ _ _ rs_l2_calm) (rs2F_ok_p n c cs i hi hn hL ) (aC dO (aC (congrArg (Value.int _) (Go.IntWalk.i64_in _ (by omega))) (aC (hL) (aC (congrArg (Value.int _) (Go.IntWalk.i64_in _ (by omega))) aN)))))).le (k_p )
end
section
variable (n c : Nat) (cs : List Value) (hn : n ≤ 64)
include n c cs hn
theorem rs2E_ok_p : go (body (Try.prog) (8) (1) (8) (keepS [0, 3, 6]) (rs_l2) (frS2 n c (↑n : Int)) ([.ro 39 cs])) [(4, .dec false)] = some (Out.mk (Xt.exit 4) (frOf 54 [(0, (sB 0 n c)), (3, .int .i64 (↑n : Int)), (6, .int .i64 (↑n : Int))]) [.ro 39 cs] [], true, [decide ((↑n : Int) < (↑n : Int)) = false]) := by kernel_rfl
theorem rs2E_ok (R : Out) (k_p : Out.le (Out.mk (Xt.exit 4) (frOf 54 [(0, (sB 0 n c)), (3, .int .i64 (↑n : Int)), (6, .int .i64 (↑n : Int))]) [.ro 39 cs] []) R) : CodeSpec (Try.prog) (1) (rs_l2) (frS2 n c (↑n : Int)) ([.ro 39 cs]) R := by
  exact (CodeSpec.id (go_ok (body_ok tnamed tcalm tmixed _ _ _ _ _ _ rs_l2_calm) (rs2E_ok_p n c cs hn ) (aC dN aN))).le (k_p )
end
section
variable (n c : Nat) (cs : List Value) (i : Int) (hi : 0 ≤ i ∧ i < (↑n : Int)) (hn : n ≤ 64) (hL : CodeSpec Try.prog 1 rs_l3C (frS3 n c i (i + 1)) [.ro 39 cs] (Out.mk Xt.ret (frSR 92) [.ro 39 cs] []))
include n c cs i hi hn hL
theorem rs2T_ok_p : go (body (Try.prog) (8) (1) (8) (keepS [0, 3, 6]) (rs_l2) (frS2 n c i) ([.ro 39 cs])) [(4, .dec true), (1, Itm.val (.int .i64 (i + 1))), (2, Itm.loop [0, 3, 6, 7] (Out.mk Xt.ret (frOf 54 [(2, .int .i64 92)]) [.ro 39 cs] []))] = some (Out.mk Xt.ret (frOf 54 [(2, .int .i64 92)]) [.ro 39 cs] [], true, [decide (i < (↑n : Int)) = true, Value.int .i64 (IntKind.wrap .i64 (i + 1)) = .int .i64 (i + 1), type_of% hL]) := by kernel_rfl
theorem rs2T_ok (R : Out) (k_p : Out.le (Out.mk Xt.ret (frOf 54 [(2, .int .i64 92)]) [.ro 39 cs] []) R) : CodeSpec (Try.prog) (1) (rs_l2) (frS2 n c i) ([.ro 39 cs]) R := by
  exact (CodeSpec.id (go_ok (body_ok tnamed tcalm tmixed _ _ _ _ _ _ rs_l2_calm) (rs2T_ok_p n c cs i hi hn hL ) (aC dO (aC (congrArg (Value.int _) (Go.IntWalk.i64_in _ (by omega))) (aC (hL) aN))))).le (k_p )
end
end Go.Proofs.Ytjalkjeldlchoaa.Ex
end
section
set_option linter.unusedSectionVars false
set_option linter.unusedSimpArgs false
set_option linter.unusedVariables false
namespace Go.Proofs.Ytjalkjeldlchoaa.Ex
open Go
set_option linter.unusedVariables false
section
variable (n c : Nat) (cs : List Value) (hn : n < 3)
include n c cs hn
theorem rs_few_p : go (exec (Try.prog) (8) (38) ([sl0 n c]) ([.ro 39 cs])) [(10, .dec true)] = some (.mk (.int .i64 90) [.ro 39 cs] [], true, [decide ((↑n : Int) < 3) = true]) := by kernel_rfl
theorem rs_few (R : Res) (k_p : Res.le (.mk (.int .i64 90) [.ro 39 cs] []) R) : CallSpec (Try.prog) (38) ([sl0 n c]) ([.ro 39 cs]) R := by
  exact (CallSpec.id (go_ok (exec_ok tnamed tcalm tmixed _ _ _ _) (rs_few_p n c cs hn ) (aC dO aN))).le (k_p )
end
section
variable (n c : Nat) (cs : List Value) (hn : 64 < n)
include n c cs hn
theorem rs_many_p : go (exec (Try.prog) (8) (38) ([sl0 n c]) ([.ro 39 cs])) [(10, .dec false), (3, .dec true)] = some (.mk (.int .i64 4) [.ro 39 cs] [], true, [decide ((↑n : Int) < 3) = false, decide ((↑n : Int) > 64) = true]) := by kernel_rfl
theorem rs_many (R : Res) (k_p : Res.le (.mk (.int .i64 4) [.ro 39 cs] []) R) : CallSpec (Try.prog) (38) ([sl0 n c]) ([.ro 39 cs]) R := by
  exact (CallSpec.id (go_ok (exec_ok tnamed tcalm tmixed _ _ _ _) (rs_many_p n c cs hn ) (aC dN (aC dO aN)))).le (k_p )
end
section
variable (n c : Nat) (cs : List Value) (hn : 3 ≤ n ∧ n ≤ 64) (h0 : CodeSpec Try.prog 1 rs_l0C (frS0 n c 0) [.ro 39 cs] (Out.mk Xt.ret (frSR 5) [.ro 39 cs] []))
include n c cs hn h0
theorem rs_5_p : go (exec (Try.prog) (8) (38) ([sl0 n c]) ([.ro 39 cs])) [(10, .dec false), (3, .dec false), (2, Itm.loop [0, 3, 4] (Out.mk Xt.ret (frOf 54 [(2, .int .i64 5)]) [.ro 39 cs] []))] = some (.mk (.int .i64 5) [.ro 39 cs] [], true, [decide ((↑n : Int) < 3) = false, decide ((↑n : Int) > 64) = false, type_of% h0]) := by kernel_rfl
theorem rs_5 (R : Res) (k_p : Res.le (.mk (.int .i64 5) [.ro 39 cs] []) R) : CallSpec (Try.prog) (38) ([sl0 n c]) ([.ro 39 cs]) R := by
  exact (CallSpec.id (go_ok (exec_ok tnamed tcalm tmixed _ _ _ _) (rs_5_p n c cs hn h0 ) (aC dN (aC dN (aC (h0) aN))))).le (k_p )
end
section
variable (n c : Nat) (cs : List Value) (hn : 3 ≤ n ∧ n ≤ 64) (h0 : CodeSpec Try.prog 1 rs_l0C (frS0 n c 0) [.ro 39 cs] (Out.mk (Xt.exit 0) (frS0 n c (↑n : Int)) [.ro 39 cs] [])) (h1 : CodeSpec Try.prog 1 rs_l1C (frS1 n c 0) [.ro 39 cs] (Out.mk Xt.ret (frSR 91) [.ro 39 cs] []))
include n c cs hn h0 h1
theorem rs_91_p : go (exec (Try.prog) (8) (38) ([sl0 n c]) ([.ro 39 cs])) [(10, .dec false), (3, .dec false), (2, Itm.loop [0, 3, 4] (Out.mk (Xt.exit 0) (frOf 54 [(0, (sB 0 n c)), (3, .int .i64 (↑n : Int)), (4, .int .i64 (↑n : Int))]) [.ro 39 cs] [])), (2, Itm.loop [0, 3, 5] (Out.mk Xt.ret (frOf 54 [(2, .int .i64 91)]) [.ro 39 cs] []))] = some (.mk (.int .i64 91) [.ro 39 cs] [], true, [decide ((↑n : Int) < 3) = false, decide ((↑n : Int) > 64) = false, type_of% h0, type_of% h1]) := by kernel_rfl
theorem rs_91 (R : Res) (k_p : Res.le (.mk (.int .i64 91) [.ro 39 cs] []) R) : CallSpec (Try.prog) (38) ([sl0 n c]) ([.ro 39 cs]) R := by
  exact (CallSpec.id (go_ok (exec_ok tnamed tcalm tmixed _ _ _ _) (rs_91_p n c cs hn h0 h1 ) (aC dN (aC dN (aC (h0) (aC (h1) aN)))))).le (k_p )
end
section
variable (n c : Nat) (cs : List Value) (hn : 3 ≤ n ∧ n ≤ 64) (h0 : CodeSpec Try.prog 1 rs_l0C (frS0 n c 0) [.ro 39 cs] (Out.mk (Xt.exit 0) (frS0 n c (↑n : Int)) [.ro 39 cs] [])) (h1 : CodeSpec Try.prog 1 rs_l1C (frS1 n c 0) [.ro 39 cs] (Out.mk (Xt.exit 2) (frS1 n c (↑n : Int)) [.ro 39 cs] [])) (h2 : CodeSpec Try.prog 1 rs_l2C (frS2 n c 0) [.ro 39 cs] (Out.mk Xt.ret (frSR 92) [.ro 39 cs] []))
include n c cs hn h0 h1 h2
theorem rs_92_p : go (exec (Try.prog) (8) (38) ([sl0 n c]) ([.ro 39 cs])) [(10, .dec false), (3, .dec false), (2, Itm.loop [0, 3, 4] (Out.mk (Xt.exit 0) (frOf 54 [(0, (sB 0 n c)), (3, .int .i64 (↑n : Int)), (4, .int .i64 (↑n : Int))]) [.ro 39 cs] [])), (2, Itm.loop [0, 3, 5] (Out.mk (Xt.exit 2) (frOf 54 [(0, (sB 0 n c)), (3, .int .i64 (↑n : Int)), (5, .int .i64 (↑n : Int))]) [.ro 39 cs] [])), (2, Itm.loop [0, 3, 6] (Out.mk Xt.ret (frOf 54 [(2, .int .i64 92)]) [.ro 39 cs] []))] = some (.mk (.int .i64 92) [.ro 39 cs] [], true, [decide ((↑n : Int) < 3) = false, decide ((↑n : Int) > 64) = false, type_of% h0, type_of% h1, type_of% h2]) := by kernel_rfl
theorem rs_92 (R : Res) (k_p : Res.le (.mk (.int .i64 92) [.ro 39 cs] []) R) : CallSpec (Try.prog) (38) ([sl0 n c]) ([.ro 39 cs]) R := by
  exact (CallSpec.id (go_ok (exec_ok tnamed tcalm tmixed _ _ _ _) (rs_92_p n c cs hn h0 h1 h2 ) (aC dN (aC dN (aC (h0) (aC (h1) (aC (h2) aN))))))).le (k_p )
end
section
variable (n c : Nat) (cs : List Value) (hn : 3 ≤ n ∧ n ≤ 64) (h0 : CodeSpec Try.prog 1 rs_l0C (frS0 n c 0) [.ro 39 cs] (Out.mk (Xt.exit 0) (frS0 n c (↑n : Int)) [.ro 39 cs] [])) (h1 : CodeSpec Try.prog 1 rs_l1C (frS1 n c 0) [.ro 39 cs] (Out.mk (Xt.exit 2) (frS1 n c (↑n : Int)) [.ro 39 cs] [])) (h2 : CodeSpec Try.prog 1 rs_l2C (frS2 n c 0) [.ro 39 cs] (Out.mk (Xt.exit 4) (frS2 n c (↑n : Int)) [.ro 39 cs] []))
include n c cs hn h0 h1 h2
theorem rs_0_p : go (exec (Try.prog) (8) (38) ([sl0 n c]) ([.ro 39 cs])) [(10, .dec false), (3, .dec false), (2, Itm.loop [0, 3, 4] (Out.mk (Xt.exit 0) (frOf 54 [(0, (sB 0 n c)), (3, .int .i64 (↑n : Int)), (4, .int .i64 (↑n : Int))]) [.ro 39 cs] [])), (2, Itm.loop [0, 3, 5] (Out.mk (Xt.exit 2) (frOf 54 [(0, (sB 0 n c)), (3, .int .i64 (↑n : Int)), (5, .int .i64 (↑n : Int))]) [.ro 39 cs] [])), (2, Itm.loop [0, 3, 6] (Out.mk (Xt.exit 4) (frOf 54 [(0, (sB 0 n c)), (3, .int .i64 (↑n : Int)), (6, .int .i64 (↑n : Int))]) [.ro 39 cs] []))] = some (.mk (.int .i64 0) [.ro 39 cs] [], true, [decide ((↑n : Int) < 3) = false, decide ((↑n : Int) > 64) = false, type_of% h0, type_of% h1, type_of% h2]) := by kernel_rfl
theorem rs_0 (R : Res) (k_p : Res.le (.mk (.int .i64 0) [.ro 39 cs] []) R) : CallSpec (Try.prog) (38) ([sl0 n c]) ([.ro 39 cs]) R := by
  exact (CallSpec.id (go_ok (exec_ok tnamed tcalm tmixed _ _ _ _) (rs_0_p n c cs hn h0 h1 h2 ) (aC dN (aC dN (aC (h0) (aC (h1) (aC (h2) aN))))))).le (k_p )
end
end Go.Proofs.Ytjalkjeldlchoaa.Ex
end
section
set_option linter.unusedSectionVars false
set_option linter.unusedSimpArgs false
set_option linter.unusedVariables false
namespace Go.Proofs.Ytjalkjeldlchoaa.Ex
open Go Go.RowKit Go.Proofs.Ytjalkjeldlchoaa.X
set_option linter.unusedVariables false
theorem any_rounds {P : Program} {m0 : Nat} {c : Code} {fr : Int → Fr} {hp : Hp} {rt ex : Out} {f : Nat → Bool} {n lo : Nat} (hrt : rt.ex ≠ .normal) (hex : ex.ex ≠ .normal)
    (ht : ∀ i : Nat, lo ≤ i → i < n → f i = true → CodeSpec P m0 c (fr i) hp rt) (hf : ∀ i : Nat, lo ≤ i → i < n → f i = false → CodeSpec P m0 c (fr i) hp ⟨.normal, fr ((i + 1 : Nat) : Int), hp, []⟩) (he : CodeSpec P m0 c (fr n) hp ex) :
    ∀ (m i : Nat), lo ≤ i → i + m = n → (anyF f n m = true → LoopSpec P m0 c (fr i) hp rt) ∧ (anyF f n m = false → LoopSpec P m0 c (fr i) hp ex)
  | 0, i, hl, hi => by
    obtain rfl : i = n := by omega
    exact ⟨fun h => (by cases h), fun _ => .last he hex⟩
  | m + 1, i, hl, hi => by
    have ih := any_rounds hrt hex ht hf he m (i + 1) (by omega) (by omega)
    rw [anyF, show n - (m + 1) = i by omega]
    cases hc : f i with
    | true => exact ⟨fun _ => .last (ht i hl (by omega) hc) hrt, fun h => by simp at h⟩
    | false =>
      rw [Bool.false_or]
      exact ⟨fun h => .more (hf i hl (by omega) hc) rfl (ih.1 h) (fun j hj => by cases hj), fun h => .more (hf i hl (by omega) hc) rfl (ih.2 h) (fun j hj => by cases hj)⟩
theorem bne_true {b : Bool} (h : ¬ (b = true)) : b = false := Bool.eq_false_iff.2 h
theorem next_done {l : List S23} {c i : Nat} (hi : i < l.length) (hn : l.length ≤ 64) : CallSpec Try.prog 72 [sl0 l.length c, .int .i64 (i : Int)] [.ro 39 (pc l)] ⟨pV (nx l (i + 1)).f0 (nx l (i + 1)).f1, [.ro 39 (pc l)], []⟩ :=
  next_ok l.length c (pc l) i _ _ (by omega) hn (pc_len l) (mod_in _ (by omega)) (nx_of (i := i + 1) (by omega) _ rfl) _ ⟨rfl, rfl, fun j hj => hj⟩
theorem rtang_done {l : List S23} {c i j : Nat} (hi : i < j) (hj : j < l.length) (hn : l.length ≤ 64) : CallSpec Try.prog 73 [sl0 l.length c, .int .i64 (i : Int), .int .i64 (j : Int)] [.ro 39 (pc l)] ⟨.bool (refPair l i j), [.ro 39 (pc l)], []⟩ := by
  refine rtang_ok l.length c (pc l) i j _ _ _ _ _ _ _ _ (by omega) hn (pc_len l) (ptAt_of (by omega)) (ptAt_of hj) (next_done (by omega) hn) (next_done hj hn) _ (fun h g => res_b ?_) (fun h g => res_b ?_) (fun h g k p => res_b ?_) (fun h g k p => res_b ?_) (fun h g k => res_b ?_) (fun h g => res_b ?_)
  all_goals unfold refPair onS
  · rw [if_pos (by omega), g]; rfl
  · rw [if_pos (by omega), bne_true g, Bool.false_or]
  · rw [if_neg (by omega), if_pos (by omega), p]; rfl
  · rw [if_neg (by omega), if_pos (by omega), bne_true p, Bool.false_or]
  · rw [if_neg (by omega), if_neg (by omega)]
  · rw [if_neg (by omega), if_neg (by omega)]
section
variable {l : List S23} {c : Nat} (hn : l.length ≤ 64)
include hn
theorem rs0_told : (anyF (fun i => outP (pt l i)) l.length l.length = true → CodeSpec Try.prog 1 rs_l0C (frS0 l.length c 0) [.ro 39 (pc l)] ⟨.ret, frSR 5, [.ro 39 (pc l)], []⟩) ∧
    (anyF (fun i => outP (pt l i)) l.length l.length = false → CodeSpec Try.prog 1 rs_l0C (frS0 l.length c 0) [.ro 39 (pc l)] ⟨.exit 0, frS0 l.length c l.length, [.ro 39 (pc l)], []⟩) := by
  have h := any_rounds (P := Try.prog) (m0 := 1) (c := rs_l0) (fr := frS0 l.length c) (hp := [.ro 39 (pc l)]) (rt := ⟨.ret, frSR 5, [.ro 39 (pc l)], []⟩) (ex := ⟨.exit 0, frS0 l.length c l.length, [.ro 39 (pc l)], []⟩) (f := fun i => outP (pt l i)) (n := l.length) (lo := 0) (by intro h; cases h) (by intro h; cases h)
    (fun i _ hi hf => rs0_ok l.length c (pc l) i _ _ (by omega) hn (pc_len l) (fun _ => ptAt_of hi) _ (fun _ _ => out_eq) (fun _ h => absurd (by rw [Bool.not_not]; exact hf) h) (fun h => absurd (by omega) h))
    (fun i _ hi hf => rs0_ok l.length c (pc l) i _ _ (by omega) hn (pc_len l) (fun _ => ptAt_of hi) _ (fun _ h => by rw [Bool.not_not] at h; exact absurd (hf.symm.trans h) Bool.false_ne_true) (fun _ _ => out_eq) (fun h => absurd (by omega) h))
    (rs0_ok l.length c (pc l) l.length 0 0 (by omega) hn (pc_len l) (fun h => by omega) _ (fun h => by omega) (fun h => by omega) (fun _ => out_eq)) l.length 0 (by omega) (by omega)
  exact ⟨fun g => (h.1 g).code, fun g => (h.2 g).code⟩
theorem rs1_told : (anyF (fun i => twin (pt l i, nx l (i + 1))) l.length l.length = true → CodeSpec Try.prog 1 rs_l1C (frS1 l.length c 0) [.ro 39 (pc l)] ⟨.ret, frSR 91, [.ro 39 (pc l)], []⟩) ∧
    (anyF (fun i => twin (pt l i, nx l (i + 1))) l.length l.length = false → CodeSpec Try.prog 1 rs_l1C (frS1 l.length c 0) [.ro 39 (pc l)] ⟨.exit 2, frS1 l.length c l.length, [.ro 39 (pc l)], []⟩) := by
  have e : ∀ a b : S23, (decide (a.f0 = b.f0) && (decide (a.f1 = b.f1) && true)) = twin (a, b) := fun a b => by
    rw [Bool.and_true]
    rfl
  have h := any_rounds (P := Try.prog) (m0 := 1) (c := rs_l1) (fr := frS1 l.length c) (hp := [.ro 39 (pc l)]) (rt := ⟨.ret, frSR 91, [.ro 39 (pc l)], []⟩) (ex := ⟨.exit 2, frS1 l.length c l.length, [.ro 39 (pc l)], []⟩) (f := fun i => twin (pt l i, nx l (i + 1))) (n := l.length) (lo := 0) (by intro h; cases h) (by intro h; cases h)
    (fun i _ hi hf => rs1_ok l.length c (pc l) i _ _ _ _ (by omega) hn (pc_len l) (fun _ => ptAt_of hi) (fun _ => next_done hi hn) _ (fun _ _ => out_eq) (fun _ h => absurd (by rw [e]; exact hf) h) (fun h => absurd (by omega) h))
    (fun i _ hi hf => rs1_ok l.length c (pc l) i _ _ _ _ (by omega) hn (pc_len l) (fun _ => ptAt_of hi) (fun _ => next_done hi hn) _ (fun _ h => by rw [e] at h; exact absurd (hf.symm.trans h) Bool.false_ne_true) (fun _ _ => out_eq) (fun h => absurd (by omega) h))
    (rs1_ok l.length c (pc l) l.length 0 0 0 0 (by omega) hn (pc_len l) (fun h => by omega) (fun h => by omega) _ (fun h => by omega) (fun h => by omega) (fun _ => out_eq)) l.length 0 (by omega) (by omega)
  exact ⟨fun g => (h.1 g).code, fun g => (h.2 g).code⟩
theorem rs3_told {i : Nat} (hi : i < l.length) : (anyF (refPair l i) l.length (l.length - (i + 1)) = true → CodeSpec Try.prog 1 rs_l3C (frS3 l.length c i ((i : Int) + 1)) [.ro 39 (pc l)] ⟨.ret, frSR 92, [.ro 39 (pc l)], []⟩) ∧
    (anyF (refPair l i) l.length (l.length - (i + 1)) = false → CodeSpec Try.prog 1 rs_l3C (frS3 l.length c i ((i : Int) + 1)) [.ro 39 (pc l)] ⟨.exit 6, frS3 l.length c i l.length, [.ro 39 (pc l)], []⟩) := by
  have h := any_rounds (P := Try.prog) (m0 := 1) (c := rs_l3) (fr := frS3 l.length c i) (hp := [.ro 39 (pc l)]) (rt := ⟨.ret, frSR 92, [.ro 39 (pc l)], []⟩) (ex := ⟨.exit 6, frS3 l.length c i l.length, [.ro 39 (pc l)], []⟩) (f := refPair l i) (n := l.length) (lo := i + 1) (by intro h; cases h) (by intro h; cases h)
    (fun j hl hj hf => rs3_ok l.length c (pc l) i j _ (by omega) hn (fun _ => rtang_done (by omega) hj hn) _ (fun _ _ => out_eq) (fun _ h => absurd hf h) (fun h => absurd (by omega) h))
    (fun j hl hj hf => rs3_ok l.length c (pc l) i j _ (by omega) hn (fun _ => rtang_done (by omega) hj hn) _ (fun _ h => absurd (hf.symm.trans h) Bool.false_ne_true) (fun _ _ => out_eq) (fun h => absurd (by omega) h))
    (rs3_ok l.length c (pc l) i l.length false (by omega) hn (fun h => by omega) _ (fun h => by omega) (fun h => by omega) (fun _ => out_eq)) (l.length - (i + 1)) (i + 1) (by omega) (by omega)
  exact ⟨fun g => (h.1 g).code, fun g => (h.2 g).code⟩
theorem rs2_told : (refTangled l = true → CodeSpec Try.prog 1 rs_l2C (frS2 l.length c 0) [.ro 39 (pc l)] ⟨.ret, frSR 92, [.ro 39 (pc l)], []⟩) ∧
    (refTangled l = false → CodeSpec Try.prog 1 rs_l2C (frS2 l.length c 0) [.ro 39 (pc l)] ⟨.exit 4, frS2 l.length c l.length, [.ro 39 (pc l)], []⟩) := by
  have h := any_rounds (P := Try.prog) (m0 := 1) (c := rs_l2) (fr := frS2 l.length c) (hp := [.ro 39 (pc l)]) (rt := ⟨.ret, frSR 92, [.ro 39 (pc l)], []⟩) (ex := ⟨.exit 4, frS2 l.length c l.length, [.ro 39 (pc l)], []⟩) (f := fun i => anyF (refPair l i) l.length (l.length - (i + 1))) (n := l.length) (lo := 0) (by intro h; cases h) (by intro h; cases h)
    (fun i _ hi hf => rs2T_ok l.length c (pc l) i (by omega) hn ((rs3_told hn hi).1 hf) _ out_eq)
    (fun i _ hi hf => rs2F_ok l.length c (pc l) i (by omega) hn ((rs3_told hn hi).2 hf) _ out_eq)
    (rs2E_ok l.length c (pc l) hn _ out_eq) l.length 0 (by omega) (by omega)
  exact ⟨fun g => (h.1 g).code, fun g => (h.2 g).code⟩
end
theorem rsimple_done (l : List S23) (c : Nat) : CallSpec Try.prog 38 [sl0 l.length c] [.ro 39 (pc l)] ⟨.int .i64 (refV l), [.ro 39 (pc l)], []⟩ := by
  have rf : ∀ {r : Res}, Res.le r r := ⟨rfl, rfl, fun j hj => hj⟩
  unfold refV
  by_cases c1 : l.length < 3
  · rw [if_pos c1]; exact rs_few _ _ _ c1 _ rf
  by_cases c2 : 64 < l.length
  · rw [if_neg c1, if_pos c2]; exact rs_many _ _ _ c2 _ rf
  have hn : l.length ≤ 64 := by omega
  rw [if_neg c1, if_neg c2]
  by_cases c3 : anyF (fun i => outP (pt l i)) l.length l.length = true
  · rw [if_pos c3]; exact rs_5 _ _ _ ⟨by omega, hn⟩ ((rs0_told hn).1 c3) _ rf
  by_cases c4 : anyF (fun i => twin (pt l i, nx l (i + 1))) l.length l.length = true
  · rw [if_neg c3, if_pos c4]; exact rs_91 _ _ _ ⟨by omega, hn⟩ ((rs0_told hn).2 (bne_true c3)) ((rs1_told hn).1 c4) _ rf
  rw [if_neg c3, if_neg c4]
  by_cases c5 : refTangled l = true
  · rw [if_pos c5]; exact rs_92 _ _ _ ⟨by omega, hn⟩ ((rs0_told hn).2 (bne_true c3)) ((rs1_told hn).2 (bne_true c4)) ((rs2_told hn).1 c5) _ rf
  · rw [if_neg c5]; exact rs_0 _ _ _ ⟨by omega, hn⟩ ((rs0_told hn).2 (bne_true c3)) ((rs1_told hn).2 (bne_true c4)) ((rs2_told hn).2 (bne_true c5)) _ rf
end Go.Proofs.Ytjalkjeldlchoaa.Ex
end
section
set_option linter.unusedSectionVars false
set_option linter.unusedSimpArgs false
set_option linter.unusedVariables false
namespace Go.Proofs.Ytjalkjeldlchoaa.Ex
open Go Go.RowKit Go.Proofs.YtjalkjeldlchoaaW.PrintWords Go.Proofs.YtjalkjeldlchoaaW.PrintLast Go.Proofs.Ytjalkjeldlchoaa.X
set_option linter.unusedVariables false
set_option linter.unusedSimpArgs false
theorem cr_vr {P : Program} {ν : Nu} {e : TypeId} {l m : List Value} (h : L2 (CR P ν e) l m) : L2 (VR1 ν) l m := by
  induction h with
  | nil => exact .nil
  | cons h _ ih => exact .cons h.1 ih
theorem row_of {ν : Nu} {w : World} {hp : Hp} {l : List S23} {n c : Nat} {v' : Value} (hl : l.length = n) (hm : n ≤ 9223372036854775807) (hb : hp.getD 0 .dead = .ro 39 (pc l)) (hr : Rep Try.prog ν hp w) (hv : VR ν (sl0 n c) v') :
    ∃ A0 c0, v' = .slice A0 n c0 ∧ n ≤ c0 ∧ Kd.C k23 w A0 n l := by
  obtain ⟨a', cap', rfl, h1, h2, h3⟩ := hv
  refine ⟨_, cap', rfl, h2, hl, hm, fun hn => ⟨a', rfl, fun j p hj => ?_⟩⟩
  have hb0 := hr.blk 0
  rw [hb] at hb0
  obtain ⟨N, n1, n2, n3, cs', n4, n5⟩ := hb0
  obtain ⟨N', m1, _, rfl, _⟩ := h3 (by omega)
  change ν 0 = some N' at m1
  rw [n1] at m1
  cases m1
  have e : cs' = pc l := (flat_L2 (pc_flat l)).1 (cr_vr n4)
  subst e
  have hjl := (List.getElem?_eq_some_iff.1 hj).1
  have hp : pt l j = p := by
    obtain ⟨_, rfl⟩ := List.getElem?_eq_some_iff.1 hj
    simp [pt, rd_T23, hjl]
  obtain ⟨g0, g1⟩ := pc_get l j hjl
  rw [hp] at g0 g1
  refine ⟨[.int .i64 p.f0, .int .i64 p.f1], rfl, k23_mk _ _, fun i u hi => ?_⟩
  have ea : (N.at 0).add (j * 2 + i) = N.at (j * 2 + i) := by rw [at_add, Nat.zero_add]
  show w.cell? ((N.at 0).add (j * 2 + i)) = some u
  rw [ea]
  match i, hi with
  | 0, hi =>
    obtain rfl : Value.int .i64 p.f0 = u := by simpa using hi
    exact n5 _ _ g0
  | 1, hi =>
    obtain rfl : Value.int .i64 p.f1 = u := by simpa using hi
    exact n5 _ _ g1
  | i + 2, hi => simp at hi
theorem simple_f (k : Nat) (l : List S23) : geo_Simple.f k l = some (simpleV l) := by
  unfold geo_Simple.f simpleV
  by_cases c1 : l.length < 3
  · rw [if_pos c1, if_pos c1]
  by_cases c2 : 64 < l.length
  · rw [if_neg c1, if_neg c1, if_pos c2, if_pos c2]
  rw [if_neg c1, if_neg c1, if_neg c2, if_neg c2, geo_fits.f, if_pos (by omega), Option.bind_some]
  cases hf : l.any outP with
  | true => rfl
  | false =>
    simp only [Bool.not_false, if_true, Bool.false_eq_true, if_false]
    by_cases c4 : (upt l l.length).any twin = true
    · rw [if_pos c4, if_pos c4]
    · rw [if_neg c4, if_neg c4, geo_tangled.f, if_pos (by omega), Option.bind_some]
      cases tangledV l <;> rfl
theorem gsimple_done (l : List S23) (c : Nat) (hm : l.length ≤ 9223372036854775807) : CallSpec Try.prog 46 [sl0 l.length c] [.ro 39 (pc l)] ⟨.int .i64 (simpleV l), [.ro 39 (pc l)], []⟩ :=
  CallSpec.of_below rfl fun ν w args' ha hr => by
    cases ha with
    | cons hv ht =>
      cases ht
      obtain ⟨A0, c0, rfl, h1, h2⟩ := row_of rfl hm rfl hr hv
      exact geo_Simple.calls 0 A0 c0 l _ w h2 h1 (simple_f 0 l)
theorem row_nil (w : World) (A : Option Addr) : Kd.C k23 w A 0 [] := ⟨rfl, by omega, fun h => absurd h (Nat.lt_irrefl 0)⟩
theorem gsimple_nil : CallSpec Try.prog 46 [.slice none 0 0] [] ⟨.int .i64 90, [], []⟩ :=
  CallSpec.of_below rfl fun ν w args' ha hr => by
    cases ha with
    | cons hv ht =>
      cases ht
      cases hv
      exact geo_Simple.calls 0 none 0 [] 90 w (row_nil w none) (Nat.le_refl _) rfl
def sideA (l : List S23) (p q : Int) : Int := if simpleV l = 0 then (if outP ⟨p, q⟩ = true then 0 else sideV l p q) else 0
def sideE (l : List S23) (p q : Int) : Int := if simpleV l = 0 then (if outP ⟨p, q⟩ = true then 5 else 0) else simpleV l
theorem gside_done (l : List S23) (c : Nat) (p q : Int) (hm : l.length ≤ 9223372036854775807) : CallSpec Try.prog 34 [sl0 l.length c, pV p q] [.ro 39 (pc l)] ⟨.tuple #[.int .i64 (sideA l p q), .int .i64 (sideE l p q)], [.ro 39 (pc l)], []⟩ :=
  CallSpec.of_below rfl fun ν w args' ha hr => by
    cases ha with
    | cons hv ht =>
      cases ht with
      | cons hp ht =>
        cases ht
        obtain rfl := (flat_VR (v := pV p q) rfl _).1 hp
        obtain ⟨A0, c0, rfl, h1, h2⟩ := row_of rfl hm rfl hr hv
        have key : ∀ r1 r2 : Int, geo_Side.f 0 l p q = some (r1, r2) → Calls Try.prog 34 #[.slice A0 l.length c0, pV p q] w fun e w' => e = .returned (.tuple #[.int .i64 r1, .int .i64 r2]) ∧ Below w.heap.size w w' := fun r1 r2 h => geo_Side.calls 0 A0 c0 l p q r1 r2 w h2 h1 h
        refine key _ _ ?_
        unfold sideA sideE geo_Side.f
        rw [simple_f, Option.bind_some]
        by_cases c : simpleV l = 0
        · rw [if_pos c, if_pos c, if_pos c, geo_fits.f, if_pos (by simp)]
          simp only [Option.bind_some, List.any_cons, List.any_nil, Bool.or_false]
          cases ho : outP ⟨p, q⟩ <;> rfl
        · rw [if_neg c, if_neg c, if_neg c]
theorem gtouch_done (a0 a1 b0 b1 x0 x1 y0 y1 : Int) : CallSpec Try.prog 80 [pV a0 a1, pV b0 b1, pV x0 x1, pV y0 y1] [] ⟨.tuple #[.bool (touchV a0 a1 b0 b1 x0 x1 y0 y1).1, .int .i64 (touchV a0 a1 b0 b1 x0 x1 y0 y1).2], [], []⟩ :=
  CallSpec.of_below rfl fun ν w args' ha hr => by
    obtain rfl := flat_args (by rfl) ha
    exact geo_Touches.calls a0 a1 b0 b1 x0 x1 y0 y1 _ _ w rfl
theorem gfits_done (l : List S23) (c : Nat) (hm : l.length ≤ 1099511627776) : CallSpec Try.prog 68 [sl0 l.length c] [.ro 39 (pc l)] ⟨.bool (!(l.any outP)), [.ro 39 (pc l)], []⟩ :=
  CallSpec.of_below rfl fun ν w args' ha hr => by
    cases ha with
    | cons hv ht =>
      cases ht
      obtain ⟨A0, c0, rfl, h1, h2⟩ := row_of rfl (by omega) rfl hr hv
      exact geo_fits.calls A0 c0 l _ w h2 h1 (by rw [geo_fits.f, if_pos hm])
end Go.Proofs.Ytjalkjeldlchoaa.Ex
end
section
set_option linter.unusedSectionVars false
set_option linter.unusedSimpArgs false
set_option linter.unusedVariables false
namespace Go.Proofs.Ytjalkjeldlchoaa.X
open Go Go.RowKit
def limV (m : Nat) (fl ce : Int) : Int := if (inQ fl && inQ ce) = true then (if fl > 0 ∨ ce ≤ 0 then 100 else if m > 8 then 4 else 0) else 5
def rallyV (l : List S23) : List S23 → Int
  | [] => 0
  | p :: r => if outP ⟨p.f0, p.f1⟩ = true then 5 else if sideV l p.f0 p.f1 = 1 then rallyV l r else 101
def checkV (l r : List S23) (fl ce : Int) : Int := if simpleV l = 0 then (if limV r.length fl ce = 0 then rallyV l r else limV r.length fl ce) else simpleV l
theorem drop_pt {r : List S23} {j : Nat} (h : j < r.length) : r.drop j = pt r j :: r.drop (j + 1) := by
  rw [List.drop_eq_getElem_cons h]
  congr 1
  simp [pt, rd_T23, h]
theorem rallyV_step {l r : List S23} {j : Nat} (h : j < r.length) : rallyV l (r.drop j) = if outP ⟨(pt r j).f0, (pt r j).f1⟩ = true then 5 else if sideV l (pt r j).f0 (pt r j).f1 = 1 then rallyV l (r.drop (j + 1)) else 101 := by
  rw [drop_pt h, rallyV]
end Go.Proofs.Ytjalkjeldlchoaa.X
namespace Go.Proofs.Ytjalkjeldlchoaa.Ex
open Go Go.RowKit Go.Proofs.Ytjalkjeldlchoaa.X
set_option linter.unusedVariables false
theorem sideE_ok {l : List S23} {p q : Int} (hl : simpleV l = 0) : sideE l p q = if outP ⟨p, q⟩ = true then 5 else 0 := by rw [sideE, if_pos hl]
theorem sideA_ok {l : List S23} {p q : Int} (hl : simpleV l = 0) : sideA l p q = if outP ⟨p, q⟩ = true then 0 else sideV l p q := by rw [sideA, if_pos hl]
theorem res_refl {r : Res} : Res.le r r := ⟨rfl, rfl, fun j hj => hj⟩
theorem lim_bb_done (n c m d : Nat) (cs rs : List Value) (fl ce : Int) : CallSpec Try.prog 47 [fV (slB 0 n c) fl ce (slB 1 m d)] [.ro 39 cs, .ro 39 rs] ⟨.int .i64 (limV m fl ce), [.ro 39 cs, .ro 39 rs], []⟩ := by
  refine lim_bb _ _ _ _ _ _ _ _ _ (fun h => res_i ?_) (fun h g => res_i ?_) (fun h g k => res_i ?_) (fun h g k p => res_i ?_) (fun h g k p => res_i ?_)
  all_goals unfold limV
  all_goals simp only [Bool.not_eq_true', Bool.not_eq_false] at h
  · rw [if_neg (by rw [h]; exact Bool.false_ne_true)]
  · rw [if_pos h, if_pos (.inl g)]
  · rw [if_pos h, if_pos (.inr k)]
  · rw [if_pos h, if_neg (by omega), if_pos (by omega)]
  · rw [if_pos h, if_neg (by omega), if_neg (by omega)]
theorem lim_bn_done (n c : Nat) (cs : List Value) (fl ce : Int) : CallSpec Try.prog 47 [fV (slB 0 n c) fl ce (.slice none 0 0)] [.ro 39 cs] ⟨.int .i64 (limV 0 fl ce), [.ro 39 cs], []⟩ := by
  refine lim_bn _ _ _ _ _ _ (fun h => res_i ?_) (fun h g => res_i ?_) (fun h g k => res_i ?_) (fun h g k => res_i ?_)
  all_goals unfold limV
  all_goals simp only [Bool.not_eq_true', Bool.not_eq_false] at h
  · rw [if_neg (by rw [h]; exact Bool.false_ne_true)]
  · rw [if_pos h, if_pos (.inl g)]
  · rw [if_pos h, if_pos (.inr k)]
  · rw [if_pos h, if_neg (by omega), if_neg (by omega)]
theorem chk_rounds {l r : List S23} {c d : Nat} {fl ce : Int} (hl : simpleV l = 0) (hm : r.length ≤ 8) : ∀ (k j : Nat), j + k = r.length →
    (rallyV l (r.drop j) ≠ 0 → LoopSpec Try.prog 2 chk_l (frC r.length d j) (hpC l.length c r.length d (pc l) (pc r) fl ce) ⟨.ret, frCR (rallyV l (r.drop j)), [.ro 39 (pc l), .ro 39 (pc r)], []⟩) ∧
    (rallyV l (r.drop j) = 0 → LoopSpec Try.prog 2 chk_l (frC r.length d j) (hpC l.length c r.length d (pc l) (pc r) fl ce) ⟨.exit 0, frC r.length d r.length, hpC l.length c r.length d (pc l) (pc r) fl ce, []⟩)
  | 0, j, hj => by
    obtain rfl : j = r.length := by omega
    rw [List.drop_length]
    refine ⟨fun h => absurd rfl h, fun _ => .last (chk_round l.length c r.length d (pc l) (pc r) fl ce r.length 0 0 0 0 (by omega) hm (pc_len r) (fun h => by omega) (fun h => by omega) _ (fun h => by omega) (fun h => by omega) (fun h => by omega) (fun _ => out_eq)) (by intro h; cases h)⟩
  | k + 1, j, hj => by
    have ih := chk_rounds (c := c) (d := d) (fl := fl) (ce := ce) hl hm k (j + 1) (by omega)
    have hlt : j < r.length := by omega
    have h64 := simpleV_zero hl
    have round := chk_round l.length c r.length d (pc l) (pc r) fl ce j _ _ _ _ (by omega) hm (pc_len r) (fun _ => ptAt_of hlt) (fun _ => gside_done l c (pt r j).f0 (pt r j).f1 (by omega))
    rw [sideE_ok hl, sideA_ok hl] at round
    rw [rallyV_step hlt]
    by_cases ho : outP ⟨(pt r j).f0, (pt r j).f1⟩ = true
    · simp only [if_pos ho] at round ⊢
      exact ⟨fun _ => .last (round _ (fun _ _ => out_eq) (fun _ h => absurd (by omega) h) (fun _ h => absurd (by omega) h) (fun h => absurd (by omega) h)) (by intro h; cases h), fun h => absurd h (by omega)⟩
    · simp only [if_neg ho] at round ⊢
      by_cases hs : sideV l (pt r j).f0 (pt r j).f1 = 1
      · simp only [if_pos hs]
        have go : ∀ o, LoopSpec Try.prog 2 chk_l (frC r.length d ((j + 1 : Nat) : Int)) (hpC l.length c r.length d (pc l) (pc r) fl ce) o → LoopSpec Try.prog 2 chk_l (frC r.length d j) (hpC l.length c r.length d (pc l) (pc r) fl ce) o := fun o h =>
          .more (o1 := ⟨.normal, frC r.length d ((j + 1 : Nat) : Int), hpC l.length c r.length d (pc l) (pc r) fl ce, []⟩) (round _ (fun _ h => absurd trivial h) (fun _ _ h => absurd hs h) (fun _ _ _ => out_eq) (fun h => absurd (by omega) h)) rfl h (fun j hj => by cases hj)
        exact ⟨fun h => go _ (ih.1 h), fun h => go _ (ih.2 h)⟩
      · simp only [if_neg hs]
        exact ⟨fun _ => .last (round _ (fun _ h => absurd trivial h) (fun _ _ _ => out_eq) (fun _ _ h => absurd hs h) (fun h => absurd (by omega) h)) (by intro h; cases h), fun h => absurd h (by omega)⟩
theorem limV_le {m : Nat} {fl ce : Int} (h : limV m fl ce = 0) : m ≤ 8 := by
  unfold limV at h
  repeat' split at h
  all_goals omega
theorem check_bb {l r : List S23} {c d : Nat} {fl ce : Int} (hm : l.length ≤ 9223372036854775807) : CallSpec Try.prog 18 [fV (slB 0 l.length c) fl ce (slB 1 r.length d)] [.ro 39 (pc l), .ro 39 (pc r)] ⟨.int .i64 (checkV l r fl ce), [.ro 39 (pc l), .ro 39 (pc r)], []⟩ := by
  have hs := gsimple_done l c hm
  have hL := lim_bb_done l.length c r.length d (pc l) (pc r) fl ce
  unfold checkV
  by_cases h1 : simpleV l = 0
  · rw [if_pos h1]
    rw [h1] at hs
    by_cases h2 : limV r.length fl ce = 0
    · rw [if_pos h2]
      rw [h2] at hL
      have h := chk_rounds (c := c) (d := d) (fl := fl) (ce := ce) h1 (limV_le h2) r.length 0 (by omega)
      rw [List.drop_zero] at h
      by_cases h3 : rallyV l r = 0
      · rw [h3]
        exact chk_F _ _ _ _ _ _ _ _ hs hL (h.2 h3).code _ res_refl
      · exact chk_T _ _ _ _ _ _ _ _ _ hs hL (h.1 h3).code _ res_refl
    · rw [if_neg h2]
      exact chk_l1 _ _ _ _ _ _ _ _ _ h2 hs hL _ res_refl
  · rw [if_neg h1]
    exact chk_e _ _ _ _ _ _ _ _ _ h1 hs _ res_refl
theorem check_bn {l : List S23} {c : Nat} {fl ce : Int} (hm : l.length ≤ 9223372036854775807) : CallSpec Try.prog 18 [fV (slB 0 l.length c) fl ce (.slice none 0 0)] [.ro 39 (pc l)] ⟨.int .i64 (checkV l [] fl ce), [.ro 39 (pc l)], []⟩ := by
  have hs := gsimple_done l c hm
  unfold checkV
  by_cases h1 : simpleV l = 0
  · rw [if_pos h1]
    rw [h1] at hs
    refine chkn_l _ _ _ _ _ _ hs (lim_bn_done l.length c (pc l) fl ce) _ (fun h => res_i ?_) (fun h => res_i ?_)
    · rw [List.length_nil, if_neg h]
    · rw [List.length_nil, if_pos (by omega)]
      rfl
  · rw [if_neg h1]
    exact chkn_e _ _ _ _ _ _ h1 hs _ res_refl
theorem check_nn (fl ce : Int) : CallSpec Try.prog 18 [fV (.slice none 0 0) fl ce (.slice none 0 0)] [] ⟨.int .i64 (checkV [] [] fl ce), [], []⟩ := chknn _ _ gsimple_nil _ res_refl
theorem check_nb (r : List S23) (d : Nat) (fl ce : Int) : CallSpec Try.prog 18 [fV (.slice none 0 0) fl ce (slB 0 r.length d)] [.ro 39 (pc r)] ⟨.int .i64 (checkV [] r fl ce), [.ro 39 (pc r)], []⟩ := chknb _ _ _ _ _ gsimple_nil _ res_refl
end Go.Proofs.Ytjalkjeldlchoaa.Ex
end
section
set_option linter.unusedSectionVars false
set_option linter.unusedSimpArgs false
set_option linter.unusedVariables false
namespace Go.Proofs.Ytjalkjeldlchoaa.Ex
open Go
set_option linter.unusedVariables false
noncomputable def wi_l : Code := loopAt Try.prog 53 0
theorem wi_l_calm : calmC wi_l = true := loopAt_calm tcalm 53 0
noncomputable def wi_lC : Code := .loop wi_l
def frW (n c : Nat) (i : Int) : Fr := frOf 52 [(3, at_ 1 0), (4, at_ 2 0), (5, at_ 3 0), (7, at_ 4 0), (8, .func (.func 79) #[] #[at_ 1 0, at_ 4 0, at_ 2 0, at_ 3 0]), (28, slB 0 n c), (29, .int .i64 n), (30, .int .i64 i)]
def frWR : Fr := frOf 52 [(6, .bool false)]
def keepW : Xt → List Nat
  | .ret => [6]
  | _ => [3, 4, 5, 7, 8, 28, 29, 30]
def hpW (n c : Nat) (cs : List Value) (x0 x1 y0 y1 : Int) : Hp := [.ro 39 cs, .own 22 [slB 0 n c], .own 32 [.int .i64 x0, .int .i64 x1], .own 32 [.int .i64 y0, .int .i64 y1], .own 3 [.int .i64 ((n : Int) - 1)]]
section
variable (n c : Nat) (cs : List Value) (i px py qx qy zx zy x0 x1 y0 y1 : Int) (hi : 0 ≤ i ∧ i ≤ (↑n : Int)) (hn : n ≤ 64) (hl : List.length cs = n * 2) (hA : i < (↑n : Int) → ptAt cs i px py) (hB : i < (↑n : Int) - 1 → ptAt cs (i + 1) qx qy) (hZ : i < (↑n : Int) → Value.agg (List.toArray (List.take 2 (List.drop 0 cs))) = (a2 zx zy))
include n c cs i px py qx qy zx zy x0 x1 y0 y1 hi hn hl hA hB hZ
theorem wi_round_pttt : go (body (Try.prog) (8) (1) (8) (keepW) (wi_l) (frW n c i) (hpW n c cs x0 x1 y0 y1)) [(2, .dec true), (1, Itm.must), (1, Itm.must), (0, Itm.val ((a2 px py))), (22, Itm.must), (1, Itm.must), (0, Itm.val ((a2 zx zy))), (14, .dec true), (3, Itm.val (.int .i64 (i + 1))), (0, Itm.must), (1, Itm.must), (0, Itm.val ((a2 qx qy))), (13, .call (.mk (.tuple #[.bool (X.touchV px py qx qy x0 x1 y0 y1).1, .int .i64 (X.touchV px py qx qy x0 x1 y0 y1).2]) [] [])), (15, .dec true)] = some (Out.mk Xt.ret (frOf 52 [(6, .bool false)]) [.ro 39 cs] [], true, [decide (i < (↑n : Int)) = true, inside i n = true, decide (0 + Int.toNat i * 2 + 2 ≤ List.length cs) = true, Value.agg (List.toArray (List.take 2 (List.drop (0 + Int.toNat i * 2) cs))) = (a2 px py), inside 0 n = true, decide (2 ≤ List.length cs) = true, Value.agg (List.toArray (List.take 2 (List.drop 0 cs))) = (a2 zx zy), decide (i < (↑n : Int) - 1) = true, Value.int .i64 (IntKind.wrap .i64 (i + 1)) = .int .i64 (i + 1), inside (i + 1) n = true, decide (0 + Int.toNat (i + 1) * 2 + 2 ≤ List.length cs) = true, Value.agg (List.toArray (List.take 2 (List.drop (0 + Int.toNat (i + 1) * 2) cs))) = (a2 qx qy), CallSpec Try.prog 80 [(a2 px py), (a2 qx qy), (a2 x0 x1), (a2 y0 y1)] [] (.mk (.tuple #[.bool (X.touchV px py qx qy x0 x1 y0 y1).1, .int .i64 (X.touchV px py qx qy x0 x1 y0 y1).2]) [] []), (X.touchV px py qx qy x0 x1 y0 y1).1 = true]) := by kernel_rfl
theorem wi_round_pttf : go (body (Try.prog) (8) (1) (8) (keepW) (wi_l) (frW n c i) (hpW n c cs x0 x1 y0 y1)) [(2, .dec true), (1, Itm.must), (1, Itm.must), (0, Itm.val ((a2 px py))), (22, Itm.must), (1, Itm.must), (0, Itm.val ((a2 zx zy))), (14, .dec true), (3, Itm.val (.int .i64 (i + 1))), (0, Itm.must), (1, Itm.must), (0, Itm.val ((a2 qx qy))), (13, .call (.mk (.tuple #[.bool (X.touchV px py qx qy x0 x1 y0 y1).1, .int .i64 (X.touchV px py qx qy x0 x1 y0 y1).2]) [] [])), (15, .dec false), (0, Itm.val (.int .i64 (i + 1)))] = some (Out.mk Xt.normal (frOf 52 [(3, (pA 1)), (4, (pA 2)), (5, (pA 3)), (7, (pA 4)), (8, Value.func (Fn.func 79) #[] #[(pA 1), (pA 4), (pA 2), (pA 3)]), (28, (sB 0 n c)), (29, .int .i64 (↑n : Int)), (30, .int .i64 (i + 1))]) [.ro 39 cs, .own 22 [(sB 0 n c)], .own 32 [.int .i64 x0, .int .i64 x1], .own 32 [.int .i64 y0, .int .i64 y1], .own 3 [.int .i64 ((↑n : Int) - 1)]] [], true, [decide (i < (↑n : Int)) = true, inside i n = true, decide (0 + Int.toNat i * 2 + 2 ≤ List.length cs) = true, Value.agg (List.toArray (List.take 2 (List.drop (0 + Int.toNat i * 2) cs))) = (a2 px py), inside 0 n = true, decide (2 ≤ List.length cs) = true, Value.agg (List.toArray (List.take 2 (List.drop 0 cs))) = (a2 zx zy), decide (i < (↑n : Int) - 1) = true, Value.int .i64 (IntKind.wrap .i64 (i + 1)) = .int .i64 (i + 1), inside (i + 1) n = true, decide (0 + Int.toNat (i + 1) * 2 + 2 ≤ List.length cs) = true, Value.agg (List.toArray (List.take 2 (List.drop (0 + Int.toNat (i + 1) * 2) cs))) = (a2 qx qy), CallSpec Try.prog 80 [(a2 px py), (a2 qx qy), (a2 x0 x1), (a2 y0 y1)] [] (.mk (.tuple #[.bool (X.touchV px py qx qy x0 x1 y0 y1).1, .int .i64 (X.touchV px py qx qy x0 x1 y0 y1).2]) [] []), (X.touchV px py qx qy x0 x1 y0 y1).1 = false, Value.int .i64 (IntKind.wrap .i64 (i + 1)) = .int .i64 (i + 1)]) := by kernel_rfl
theorem wi_round_ptft : go (body (Try.prog) (8) (1) (8) (keepW) (wi_l) (frW n c i) (hpW n c cs x0 x1 y0 y1)) [(2, .dec true), (1, Itm.must), (1, Itm.must), (0, Itm.val ((a2 px py))), (22, Itm.must), (1, Itm.must), (0, Itm.val ((a2 zx zy))), (14, .dec false), (8, .call (.mk (.tuple #[.bool (X.touchV px py zx zy x0 x1 y0 y1).1, .int .i64 (X.touchV px py zx zy x0 x1 y0 y1).2]) [] [])), (15, .dec true)] = some (Out.mk Xt.ret (frOf 52 [(6, .bool false)]) [.ro 39 cs] [], true, [decide (i < (↑n : Int)) = true, inside i n = true, decide (0 + Int.toNat i * 2 + 2 ≤ List.length cs) = true, Value.agg (List.toArray (List.take 2 (List.drop (0 + Int.toNat i * 2) cs))) = (a2 px py), inside 0 n = true, decide (2 ≤ List.length cs) = true, Value.agg (List.toArray (List.take 2 (List.drop 0 cs))) = (a2 zx zy), decide (i < (↑n : Int) - 1) = false, CallSpec Try.prog 80 [(a2 px py), (a2 zx zy), (a2 x0 x1), (a2 y0 y1)] [] (.mk (.tuple #[.bool (X.touchV px py zx zy x0 x1 y0 y1).1, .int .i64 (X.touchV px py zx zy x0 x1 y0 y1).2]) [] []), (X.touchV px py zx zy x0 x1 y0 y1).1 = true]) := by kernel_rfl
theorem wi_round_ptff : go (body (Try.prog) (8) (1) (8) (keepW) (wi_l) (frW n c i) (hpW n c cs x0 x1 y0 y1)) [(2, .dec true), (1, Itm.must), (1, Itm.must), (0, Itm.val ((a2 px py))), (22, Itm.must), (1, Itm.must), (0, Itm.val ((a2 zx zy))), (14, .dec false), (8, .call (.mk (.tuple #[.bool (X.touchV px py zx zy x0 x1 y0 y1).1, .int .i64 (X.touchV px py zx zy x0 x1 y0 y1).2]) [] [])), (15, .dec false), (0, Itm.val (.int .i64 (i + 1)))] = some (Out.mk Xt.normal (frOf 52 [(3, (pA 1)), (4, (pA 2)), (5, (pA 3)), (7, (pA 4)), (8, Value.func (Fn.func 79) #[] #[(pA 1), (pA 4), (pA 2), (pA 3)]), (28, (sB 0 n c)), (29, .int .i64 (↑n : Int)), (30, .int .i64 (i + 1))]) [.ro 39 cs, .own 22 [(sB 0 n c)], .own 32 [.int .i64 x0, .int .i64 x1], .own 32 [.int .i64 y0, .int .i64 y1], .own 3 [.int .i64 ((↑n : Int) - 1)]] [], true, [decide (i < (↑n : Int)) = true, inside i n = true, decide (0 + Int.toNat i * 2 + 2 ≤ List.length cs) = true, Value.agg (List.toArray (List.take 2 (List.drop (0 + Int.toNat i * 2) cs))) = (a2 px py), inside 0 n = true, decide (2 ≤ List.length cs) = true, Value.agg (List.toArray (List.take 2 (List.drop 0 cs))) = (a2 zx zy), decide (i < (↑n : Int) - 1) = false, CallSpec Try.prog 80 [(a2 px py), (a2 zx zy), (a2 x0 x1), (a2 y0 y1)] [] (.mk (.tuple #[.bool (X.touchV px py zx zy x0 x1 y0 y1).1, .int .i64 (X.touchV px py zx zy x0 x1 y0 y1).2]) [] []), (X.touchV px py zx zy x0 x1 y0 y1).1 = false, Value.int .i64 (IntKind.wrap .i64 (i + 1)) = .int .i64 (i + 1)]) := by kernel_rfl
theorem wi_round_pf : go (body (Try.prog) (8) (1) (8) (keepW) (wi_l) (frW n c i) (hpW n c cs x0 x1 y0 y1)) [(2, .dec false)] = some (Out.mk (Xt.exit 0) (frOf 52 [(3, (pA 1)), (4, (pA 2)), (5, (pA 3)), (7, (pA 4)), (8, Value.func (Fn.func 79) #[] #[(pA 1), (pA 4), (pA 2), (pA 3)]), (28, (sB 0 n c)), (29, .int .i64 (↑n : Int)), (30, .int .i64 i)]) [.ro 39 cs, .own 22 [(sB 0 n c)], .own 32 [.int .i64 x0, .int .i64 x1], .own 32 [.int .i64 y0, .int .i64 y1], .own 3 [.int .i64 ((↑n : Int) - 1)]] [], true, [decide (i < (↑n : Int)) = false]) := by kernel_rfl
theorem wi_round (R : Out) (k_pttt : (h0 : i < (↑n : Int)) → (h1 : i < (↑n : Int) - 1) → (h2 : (X.touchV px py qx qy x0 x1 y0 y1).1 = true) → Out.le (Out.mk Xt.ret (frOf 52 [(6, .bool false)]) [.ro 39 cs] []) R) (k_pttf : (h0 : i < (↑n : Int)) → (h1 : i < (↑n : Int) - 1) → (h2 : ¬ ((X.touchV px py qx qy x0 x1 y0 y1).1 = true)) → Out.le (Out.mk Xt.normal (frOf 52 [(3, (pA 1)), (4, (pA 2)), (5, (pA 3)), (7, (pA 4)), (8, Value.func (Fn.func 79) #[] #[(pA 1), (pA 4), (pA 2), (pA 3)]), (28, (sB 0 n c)), (29, .int .i64 (↑n : Int)), (30, .int .i64 (i + 1))]) [.ro 39 cs, .own 22 [(sB 0 n c)], .own 32 [.int .i64 x0, .int .i64 x1], .own 32 [.int .i64 y0, .int .i64 y1], .own 3 [.int .i64 ((↑n : Int) - 1)]] []) R) (k_ptft : (h0 : i < (↑n : Int)) → (h1 : ¬ (i < (↑n : Int) - 1)) → (h2 : (X.touchV px py zx zy x0 x1 y0 y1).1 = true) → Out.le (Out.mk Xt.ret (frOf 52 [(6, .bool false)]) [.ro 39 cs] []) R) (k_ptff : (h0 : i < (↑n : Int)) → (h1 : ¬ (i < (↑n : Int) - 1)) → (h2 : ¬ ((X.touchV px py zx zy x0 x1 y0 y1).1 = true)) → Out.le (Out.mk Xt.normal (frOf 52 [(3, (pA 1)), (4, (pA 2)), (5, (pA 3)), (7, (pA 4)), (8, Value.func (Fn.func 79) #[] #[(pA 1), (pA 4), (pA 2), (pA 3)]), (28, (sB 0 n c)), (29, .int .i64 (↑n : Int)), (30, .int .i64 (i + 1))]) [.ro 39 cs, .own 22 [(sB 0 n c)], .own 32 [.int .i64 x0, .int .i64 x1], .own 32 [.int .i64 y0, .int .i64 y1], .own 3 [.int .i64 ((↑n : Int) - 1)]] []) R) (k_pf : (h0 : ¬ (i < (↑n : Int))) → Out.le (Out.mk (Xt.exit 0) (frOf 52 [(3, (pA 1)), (4, (pA 2)), (5, (pA 3)), (7, (pA 4)), (8, Value.func (Fn.func 79) #[] #[(pA 1), (pA 4), (pA 2), (pA 3)]), (28, (sB 0 n c)), (29, .int .i64 (↑n : Int)), (30, .int .i64 i)]) [.ro 39 cs, .own 22 [(sB 0 n c)], .own 32 [.int .i64 x0, .int .i64 x1], .own 32 [.int .i64 y0, .int .i64 y1], .own 3 [.int .i64 ((↑n : Int) - 1)]] []) R) : CodeSpec (Try.prog) (1) (wi_l) (frW n c i) (hpW n c cs x0 x1 y0 y1) R := by
  by_cases h0 : i < (↑n : Int)
  · by_cases h1 : i < (↑n : Int) - 1
    · by_cases h2 : (X.touchV px py qx qy x0 x1 y0 y1).1 = true
      · exact (CodeSpec.id (go_ok (body_ok tnamed tcalm tmixed _ _ _ _ _ _ wi_l_calm) (wi_round_pttt n c cs i px py qx qy zx zy x0 x1 y0 y1 hi hn hl hA hB hZ ) (aC (dTq h0) (aC (inside_of (by omega)) (aC dO (aC ((hA (by omega))) (aC (inside_of (by omega)) (aC dO (aC ((hZ (by omega))) (aC (dTq h1) (aC (congrArg (Value.int _) (Go.IntWalk.i64_in _ (by omega))) (aC (inside_of (by omega)) (aC dO (aC ((hB (by omega))) (aC ((gtouch_done _ _ _ _ _ _ _ _)) (aC (h2) aN)))))))))))))))).le (k_pttt h0 h1 h2)
      · exact (CodeSpec.id (go_ok (body_ok tnamed tcalm tmixed _ _ _ _ _ _ wi_l_calm) (wi_round_pttf n c cs i px py qx qy zx zy x0 x1 y0 y1 hi hn hl hA hB hZ ) (aC (dTq h0) (aC (inside_of (by omega)) (aC dO (aC ((hA (by omega))) (aC (inside_of (by omega)) (aC dO (aC ((hZ (by omega))) (aC (dTq h1) (aC (congrArg (Value.int _) (Go.IntWalk.i64_in _ (by omega))) (aC (inside_of (by omega)) (aC dO (aC ((hB (by omega))) (aC ((gtouch_done _ _ _ _ _ _ _ _)) (aC ((bF h2)) (aC (congrArg (Value.int _) (Go.IntWalk.i64_in _ (by omega))) aN))))))))))))))))).le (k_pttf h0 h1 h2)
    · by_cases h2 : (X.touchV px py zx zy x0 x1 y0 y1).1 = true
      · exact (CodeSpec.id (go_ok (body_ok tnamed tcalm tmixed _ _ _ _ _ _ wi_l_calm) (wi_round_ptft n c cs i px py qx qy zx zy x0 x1 y0 y1 hi hn hl hA hB hZ ) (aC (dTq h0) (aC (inside_of (by omega)) (aC dO (aC ((hA (by omega))) (aC (inside_of (by omega)) (aC dO (aC ((hZ (by omega))) (aC (dFq h1) (aC ((gtouch_done _ _ _ _ _ _ _ _)) (aC (h2) aN)))))))))))).le (k_ptft h0 h1 h2)
      · exact (CodeSpec.id (go_ok (body_ok tnamed tcalm tmixed _ _ _ _ _ _ wi_l_calm) (wi_round_ptff n c cs i px py qx qy zx zy x0 x1 y0 y1 hi hn hl hA hB hZ ) (aC (dTq h0) (aC (inside_of (by omega)) (aC dO (aC ((hA (by omega))) (aC (inside_of (by omega)) (aC dO (aC ((hZ (by omega))) (aC (dFq h1) (aC ((gtouch_done _ _ _ _ _ _ _ _)) (aC ((bF h2)) (aC (congrArg (Value.int _) (Go.IntWalk.i64_in _ (by omega))) aN))))))))))))).le (k_ptff h0 h1 h2)
  · exact (CodeSpec.id (go_ok (body_ok tnamed tcalm tmixed _ _ _ _ _ _ wi_l_calm) (wi_round_pf n c cs i px py qx qy zx zy x0 x1 y0 y1 hi hn hl hA hB hZ ) (aC (dFq h0) aN))).le (k_pf h0)
end
section
variable (n c : Nat) (cs : List Value) (x0 x1 y0 y1 : Int) (hn : 1 ≤ n ∧ n ≤ 64) (hL : CodeSpec Try.prog 1 wi_lC (frW n c 0) (hpW n c cs x0 x1 y0 y1) (Out.mk Xt.ret frWR [.ro 39 cs] []))
include n c cs x0 x1 y0 y1 hn hL
theorem wi_T_pt : go (exec (Try.prog) (8) (53) ([slB 0 n c, pV x0 x1, pV y0 y1]) ([.ro 39 cs])) [(36, .call (.mk (.bool (X.inQ x0 && X.inQ x1 && (X.inQ y0 && X.inQ y1))) [.own 3 [.int .i64 x0, .int .i64 x1, .int .i64 y0, .int .i64 y1]] [])), (4, .dec true)] = some (.mk (.bool false) [.ro 39 cs] [], true, [CallSpec Try.prog 55 [(sB 0 4 4)] [.own 3 [.int .i64 x0, .int .i64 x1, .int .i64 y0, .int .i64 y1]] (.mk (.bool (X.inQ x0 && X.inQ x1 && (X.inQ y0 && X.inQ y1))) [.own 3 [.int .i64 x0, .int .i64 x1, .int .i64 y0, .int .i64 y1]] []), (!(X.inQ x0 && X.inQ x1 && (X.inQ y0 && X.inQ y1))) = true]) := by kernel_rfl
theorem wi_T_pf : go (exec (Try.prog) (8) (53) ([slB 0 n c, pV x0 x1, pV y0 y1]) ([.ro 39 cs])) [(36, .call (.mk (.bool (X.inQ x0 && X.inQ x1 && (X.inQ y0 && X.inQ y1))) [.own 3 [.int .i64 x0, .int .i64 x1, .int .i64 y0, .int .i64 y1]] [])), (4, .dec false), (3, Itm.val (.int .i64 ((↑n : Int) - 1))), (17, Itm.loop [3, 4, 5, 7, 8, 28, 29, 30] (Out.mk Xt.ret (frOf 52 [(6, .bool false)]) [.ro 39 cs] []))] = some (.mk (.bool false) [.ro 39 cs] [], true, [CallSpec Try.prog 55 [(sB 0 4 4)] [.own 3 [.int .i64 x0, .int .i64 x1, .int .i64 y0, .int .i64 y1]] (.mk (.bool (X.inQ x0 && X.inQ x1 && (X.inQ y0 && X.inQ y1))) [.own 3 [.int .i64 x0, .int .i64 x1, .int .i64 y0, .int .i64 y1]] []), (!(X.inQ x0 && X.inQ x1 && (X.inQ y0 && X.inQ y1))) = false, Value.int .i64 (IntKind.wrap .i64 ((↑n : Int) - 1)) = .int .i64 ((↑n : Int) - 1), type_of% hL]) := by kernel_rfl
theorem wi_T (R : Res) (k_pt : (h0 : (!(X.inQ x0 && X.inQ x1 && (X.inQ y0 && X.inQ y1))) = true) → Res.le (.mk (.bool false) [.ro 39 cs] []) R) (k_pf : (h0 : ¬ ((!(X.inQ x0 && X.inQ x1 && (X.inQ y0 && X.inQ y1))) = true)) → Res.le (.mk (.bool false) [.ro 39 cs] []) R) : CallSpec (Try.prog) (53) ([slB 0 n c, pV x0 x1, pV y0 y1]) ([.ro 39 cs]) R := by
  by_cases h0 : (!(X.inQ x0 && X.inQ x1 && (X.inQ y0 && X.inQ y1))) = true
  · exact (CallSpec.id (go_ok (exec_ok tnamed tcalm tmixed _ _ _ _) (wi_T_pt n c cs x0 x1 y0 y1 hn hL ) (aC ((may4_done _ _ _ _)) (aC (h0) aN)))).le (k_pt h0)
  · exact (CallSpec.id (go_ok (exec_ok tnamed tcalm tmixed _ _ _ _) (wi_T_pf n c cs x0 x1 y0 y1 hn hL ) (aC ((may4_done _ _ _ _)) (aC ((bF h0)) (aC (congrArg (Value.int _) (Go.IntWalk.i64_in _ (by omega))) (aC (hL) aN)))))).le (k_pf h0)
end
section
variable (n c : Nat) (cs : List Value) (x0 x1 y0 y1 sA sE : Int) (hn : 1 ≤ n ∧ n ≤ 64) (hL : CodeSpec Try.prog 1 wi_lC (frW n c 0) (hpW n c cs x0 x1 y0 y1) (Out.mk (Xt.exit 0) (frW n c (↑n : Int)) (hpW n c cs x0 x1 y0 y1) [])) (kS : CallSpec Try.prog 34 [slB 0 n c, (a2 x1 y1)] [.ro 39 cs] (.mk (.tuple #[.int .i64 sA, .int .i64 sE]) [.ro 39 cs] []))
include n c cs x0 x1 y0 y1 sA sE hn hL kS
theorem wi_E_pt : go (exec (Try.prog) (8) (53) ([slB 0 n c, pV x0 x1, pV y0 y1]) ([.ro 39 cs])) [(36, .call (.mk (.bool (X.inQ x0 && X.inQ x1 && (X.inQ y0 && X.inQ y1))) [.own 3 [.int .i64 x0, .int .i64 x1, .int .i64 y0, .int .i64 y1]] [])), (4, .dec true)] = some (.mk (.bool false) [.ro 39 cs] [], true, [CallSpec Try.prog 55 [(sB 0 4 4)] [.own 3 [.int .i64 x0, .int .i64 x1, .int .i64 y0, .int .i64 y1]] (.mk (.bool (X.inQ x0 && X.inQ x1 && (X.inQ y0 && X.inQ y1))) [.own 3 [.int .i64 x0, .int .i64 x1, .int .i64 y0, .int .i64 y1]] []), (!(X.inQ x0 && X.inQ x1 && (X.inQ y0 && X.inQ y1))) = true]) := by kernel_rfl
theorem wi_E_pf : go (exec (Try.prog) (8) (53) ([slB 0 n c, pV x0 x1, pV y0 y1]) ([.ro 39 cs])) [(36, .call (.mk (.bool (X.inQ x0 && X.inQ x1 && (X.inQ y0 && X.inQ y1))) [.own 3 [.int .i64 x0, .int .i64 x1, .int .i64 y0, .int .i64 y1]] [])), (4, .dec false), (3, Itm.val (.int .i64 ((↑n : Int) - 1))), (17, Itm.loop [3, 4, 5, 7, 8, 28, 29, 30] (Out.mk (Xt.exit 0) (frOf 52 [(3, (pA 1)), (4, (pA 2)), (5, (pA 3)), (7, (pA 4)), (8, Value.func (Fn.func 79) #[] #[(pA 1), (pA 4), (pA 2), (pA 3)]), (28, (sB 0 n c)), (29, .int .i64 (↑n : Int)), (30, .int .i64 (↑n : Int))]) [.ro 39 cs, .own 22 [(sB 0 n c)], .own 32 [.int .i64 x0, .int .i64 x1], .own 32 [.int .i64 y0, .int .i64 y1], .own 3 [.int .i64 ((↑n : Int) - 1)]] [])), (16, .call (.mk (.tuple #[.int .i64 sA, .int .i64 sE]) [.ro 39 cs] []))] = some (.mk (.bool (decide (sA = 1))) [.ro 39 cs] [], true, [CallSpec Try.prog 55 [(sB 0 4 4)] [.own 3 [.int .i64 x0, .int .i64 x1, .int .i64 y0, .int .i64 y1]] (.mk (.bool (X.inQ x0 && X.inQ x1 && (X.inQ y0 && X.inQ y1))) [.own 3 [.int .i64 x0, .int .i64 x1, .int .i64 y0, .int .i64 y1]] []), (!(X.inQ x0 && X.inQ x1 && (X.inQ y0 && X.inQ y1))) = false, Value.int .i64 (IntKind.wrap .i64 ((↑n : Int) - 1)) = .int .i64 ((↑n : Int) - 1), type_of% hL, type_of% kS]) := by kernel_rfl
theorem wi_E (R : Res) (k_pt : (h0 : (!(X.inQ x0 && X.inQ x1 && (X.inQ y0 && X.inQ y1))) = true) → Res.le (.mk (.bool false) [.ro 39 cs] []) R) (k_pf : (h0 : ¬ ((!(X.inQ x0 && X.inQ x1 && (X.inQ y0 && X.inQ y1))) = true)) → Res.le (.mk (.bool (decide (sA = 1))) [.ro 39 cs] []) R) : CallSpec (Try.prog) (53) ([slB 0 n c, pV x0 x1, pV y0 y1]) ([.ro 39 cs]) R := by
  by_cases h0 : (!(X.inQ x0 && X.inQ x1 && (X.inQ y0 && X.inQ y1))) = true
  · exact (CallSpec.id (go_ok (exec_ok tnamed tcalm tmixed _ _ _ _) (wi_E_pt n c cs x0 x1 y0 y1 sA sE hn hL kS ) (aC ((may4_done _ _ _ _)) (aC (h0) aN)))).le (k_pt h0)
  · exact (CallSpec.id (go_ok (exec_ok tnamed tcalm tmixed _ _ _ _) (wi_E_pf n c cs x0 x1 y0 y1 sA sE hn hL kS ) (aC ((may4_done _ _ _ _)) (aC ((bF h0)) (aC (congrArg (Value.int _) (Go.IntWalk.i64_in _ (by omega))) (aC (hL) (aC (kS) aN))))))).le (k_pf h0)
end
end Go.Proofs.Ytjalkjeldlchoaa.Ex
end
section
set_option linter.unusedSectionVars false
set_option linter.unusedSimpArgs false
set_option linter.unusedVariables false
namespace Go.Proofs.Ytjalkjeldlchoaa.X
open Go Go.RowKit
def touchAt (l : List S23) (x0 x1 y0 y1 : Int) (i : Nat) : Bool := (touchV (pt l i).f0 (pt l i).f1 (nx l (i + 1)).f0 (nx l (i + 1)).f1 x0 x1 y0 y1).1
def withinV (l : List S23) (x0 x1 y0 y1 : Int) : Bool := ((inQ x0 && inQ x1) && (inQ y0 && inQ y1)) && (!anyF (touchAt l x0 x1 y0 y1) l.length l.length && decide (Ex.sideA l x1 y1 = 1))
end Go.Proofs.Ytjalkjeldlchoaa.X
namespace Go.Proofs.Ytjalkjeldlchoaa.Ex
open Go Go.RowKit Go.Proofs.Ytjalkjeldlchoaa.X
set_option linter.unusedVariables false
theorem zero_pt {l : List S23} (h : 0 < l.length) : Value.agg (List.toArray (List.take 2 (List.drop 0 (pc l)))) = .agg #[.int .i64 (pt l 0).f0, .int .i64 (pt l 0).f1] := ptAt_of (i := 0) h
theorem wi_told {l : List S23} {c : Nat} {x0 x1 y0 y1 : Int} (h0 : 0 < l.length) (hn : l.length ≤ 64) :
    (anyF (touchAt l x0 x1 y0 y1) l.length l.length = true → CodeSpec Try.prog 1 wi_lC (frW l.length c 0) (hpW l.length c (pc l) x0 x1 y0 y1) ⟨.ret, frWR, [.ro 39 (pc l)], []⟩) ∧
    (anyF (touchAt l x0 x1 y0 y1) l.length l.length = false → CodeSpec Try.prog 1 wi_lC (frW l.length c 0) (hpW l.length c (pc l) x0 x1 y0 y1) ⟨.exit 0, frW l.length c l.length, hpW l.length c (pc l) x0 x1 y0 y1, []⟩) := by
  have e1 : ∀ i, i + 1 < l.length → nx l (i + 1) = pt l (i + 1) := fun i h => nx_lt h
  have e2 : ∀ i, i + 1 = l.length → nx l (i + 1) = pt l 0 := fun i h => by rw [h]; exact nx_len h0
  have round : ∀ i, i < l.length → _ := fun i hi => wi_round l.length c (pc l) i (pt l i).f0 (pt l i).f1 (pt l (i + 1)).f0 (pt l (i + 1)).f1 (pt l 0).f0 (pt l 0).f1 x0 x1 y0 y1 (by omega) hn (pc_len l) (fun _ => ptAt_of hi) (fun h => ptAt_of (i := i + 1) (by omega)) (fun _ => zero_pt h0)
  have h := any_rounds (P := Try.prog) (m0 := 1) (c := wi_l) (fr := frW l.length c) (hp := hpW l.length c (pc l) x0 x1 y0 y1) (rt := ⟨.ret, frWR, [.ro 39 (pc l)], []⟩) (ex := ⟨.exit 0, frW l.length c l.length, hpW l.length c (pc l) x0 x1 y0 y1, []⟩) (f := touchAt l x0 x1 y0 y1) (n := l.length) (lo := 0) (by intro h; cases h) (by intro h; cases h)
    (fun i _ hi hf => by
      unfold touchAt at hf
      refine round i hi _ (fun _ _ _ => out_eq) (fun _ h g => ?_) (fun _ _ _ => out_eq) (fun _ h g => ?_) (fun h => absurd (by omega) h)
      · rw [e1 i (by omega)] at hf; exact absurd hf g
      · rw [e2 i (by omega)] at hf; exact absurd hf g)
    (fun i _ hi hf => by
      unfold touchAt at hf
      refine round i hi _ (fun _ h g => ?_) (fun _ _ _ => out_eq) (fun _ h g => ?_) (fun _ _ _ => out_eq) (fun h => absurd (by omega) h)
      · rw [e1 i (by omega)] at hf; exact absurd (hf.symm.trans g) Bool.false_ne_true
      · rw [e2 i (by omega)] at hf; exact absurd (hf.symm.trans g) Bool.false_ne_true)
    (wi_round l.length c (pc l) l.length 0 0 0 0 0 0 x0 x1 y0 y1 (by omega) hn (pc_len l) (fun h => by omega) (fun h => by omega) (fun h => by omega) _ (fun h => by omega) (fun h => by omega) (fun h => by omega) (fun h => by omega) (fun _ => out_eq)) l.length 0 (by omega) (by omega)
  exact ⟨fun g => (h.1 g).code, fun g => (h.2 g).code⟩
theorem within_done {l : List S23} {c : Nat} (x0 x1 y0 y1 : Int) (h0 : 0 < l.length) (hn : l.length ≤ 64) : CallSpec Try.prog 53 [slB 0 l.length c, pV x0 x1, pV y0 y1] [.ro 39 (pc l)] ⟨.bool (withinV l x0 x1 y0 y1), [.ro 39 (pc l)], []⟩ := by
  have hw := wi_told (c := c) (x0 := x0) (x1 := x1) (y0 := y0) (y1 := y1) h0 hn
  unfold withinV
  cases ht : anyF (touchAt l x0 x1 y0 y1) l.length l.length with
  | true =>
    refine wi_T _ _ _ _ _ _ _ ⟨h0, hn⟩ (hw.1 ht) _ (fun h => res_b ?_) (fun h => res_b ?_)
    · rw [Bool.not_true, Bool.false_and, Bool.and_false]
    · rw [Bool.not_true, Bool.false_and, Bool.and_false]
  | false =>
    refine wi_E _ _ _ _ _ _ _ _ _ ⟨h0, hn⟩ (hw.2 ht) (gside_done l c x1 y1 (by omega)) _ (fun h => res_b ?_) (fun h => res_b ?_)
    · rw [Bool.not_eq_true'] at h
      rw [h, Bool.false_and]
    · rw [Bool.not_eq_true', Bool.not_eq_false] at h
      rw [h, Bool.true_and, Bool.not_false, Bool.true_and]
end Go.Proofs.Ytjalkjeldlchoaa.Ex
end
section
set_option linter.unusedSectionVars false
set_option linter.unusedSimpArgs false
set_option linter.unusedVariables false
namespace Go.Proofs.Ytjalkjeldlchoaa.Ex
open Go
set_option linter.unusedVariables false
theorem gfits2 (a b c d : Int) : CallSpec Try.prog 68 [.slice (some ⟨0, 0, none⟩) 2 2] [.own 39 [.int .i64 a, .int .i64 b, .int .i64 c, .int .i64 d]] ⟨.bool (!(X.outP ⟨a, b⟩ || X.outP ⟨c, d⟩)), [.own 39 [.int .i64 a, .int .i64 b, .int .i64 c, .int .i64 d]], []⟩ := by
  have h := gfits_done [⟨a, b⟩, ⟨c, d⟩] 2 (by simp)
  have e : ([⟨a, b⟩, ⟨c, d⟩] : List X.S23).any X.outP = (X.outP ⟨a, b⟩ || X.outP ⟨c, d⟩) := by simp
  rw [e] at h
  exact CallSpec.soft (hp := [.ro 39 [.int .i64 a, .int .i64 b, .int .i64 c, .int .i64 d]]) rfl rfl soft_one h
section
variable (a0 a1 b0 b1 : Int)
include a0 a1 b0 b1
theorem gfar_ok_pt : go (exec (Try.prog) (8) (37) ([pV a0 a1, pV b0 b1]) ([])) [(20, .call (.mk (.bool !(X.outP (X.S23.mk a0 a1) || X.outP (X.S23.mk b0 b1))) [.own 39 [.int .i64 a0, .int .i64 a1, .int .i64 b0, .int .i64 b1]] [])), (4, .dec true)] = some (.mk (.tuple #[.int .i64 0, .int .i64 5]) [] [], true, [CallSpec Try.prog 68 [(sB 0 2 2)] [.own 39 [.int .i64 a0, .int .i64 a1, .int .i64 b0, .int .i64 b1]] (.mk (.bool !(X.outP (X.S23.mk a0 a1) || X.outP (X.S23.mk b0 b1))) [.own 39 [.int .i64 a0, .int .i64 a1, .int .i64 b0, .int .i64 b1]] []), (!!(X.outP (X.S23.mk a0 a1) || X.outP (X.S23.mk b0 b1))) = true]) := by kernel_rfl
theorem gfar_ok_pf : go (exec (Try.prog) (8) (37) ([pV a0 a1, pV b0 b1]) ([])) [(20, .call (.mk (.bool !(X.outP (X.S23.mk a0 a1) || X.outP (X.S23.mk b0 b1))) [.own 39 [.int .i64 a0, .int .i64 a1, .int .i64 b0, .int .i64 b1]] [])), (4, .dec false)] = some (.mk (.tuple #[.int .i64 (IntKind.wrap .i64 (IntKind.wrap .i64 (IntKind.wrap .i64 (a0 - b0) * IntKind.wrap .i64 (a0 - b0)) + IntKind.wrap .i64 (IntKind.wrap .i64 (a1 - b1) * IntKind.wrap .i64 (a1 - b1)))), .int .i64 0]) [] [], true, [CallSpec Try.prog 68 [(sB 0 2 2)] [.own 39 [.int .i64 a0, .int .i64 a1, .int .i64 b0, .int .i64 b1]] (.mk (.bool !(X.outP (X.S23.mk a0 a1) || X.outP (X.S23.mk b0 b1))) [.own 39 [.int .i64 a0, .int .i64 a1, .int .i64 b0, .int .i64 b1]] []), (!!(X.outP (X.S23.mk a0 a1) || X.outP (X.S23.mk b0 b1))) = false]) := by kernel_rfl
theorem gfar_ok (R : Res) (k_pt : (h0 : (!!(X.outP (X.S23.mk a0 a1) || X.outP (X.S23.mk b0 b1))) = true) → Res.le (.mk (.tuple #[.int .i64 0, .int .i64 5]) [] []) R) (k_pf : (h0 : ¬ ((!!(X.outP (X.S23.mk a0 a1) || X.outP (X.S23.mk b0 b1))) = true)) → Res.le (.mk (.tuple #[.int .i64 (IntKind.wrap .i64 (IntKind.wrap .i64 (IntKind.wrap .i64 (a0 - b0) * IntKind.wrap .i64 (a0 - b0)) + IntKind.wrap .i64 (IntKind.wrap .i64 (a1 - b1) * IntKind.wrap .i64 (a1 - b1)))), .int .i64 0]) [] []) R) : CallSpec (Try.prog) (37) ([pV a0 a1, pV b0 b1]) ([]) R := by
  by_cases h0 : (!!(X.outP (X.S23.mk a0 a1) || X.outP (X.S23.mk b0 b1))) = true
  · exact (CallSpec.id (go_ok (exec_ok tnamed tcalm tmixed _ _ _ _) (gfar_ok_pt a0 a1 b0 b1 ) (aC ((gfits2 _ _ _ _)) (aC (h0) aN)))).le (k_pt h0)
  · exact (CallSpec.id (go_ok (exec_ok tnamed tcalm tmixed _ _ _ _) (gfar_ok_pf a0 a1 b0 b1 ) (aC ((gfits2 _ _ _ _)) (aC ((bF h0)) aN)))).le (k_pf h0)
end
section
variable (n c m d : Nat) (cs rs : List Value) (fl ce x0 x1 y0 y1 z0 z1 e : Int) (w : Bool) (kC : CallSpec Try.prog 18 [fV (slB 0 n c) fl ce (slB 1 m d)] [.ro 39 cs, .ro 39 rs] (.mk (.int .i64 e) [.ro 39 cs, .ro 39 rs] [])) (kW : e = 0 → CallSpec Try.prog 53 [slB 0 n c, pV x0 x1, pV y0 y1] [.ro 39 cs] (.mk (.bool w) [.ro 39 cs] []))
include n c m d cs rs fl ce x0 x1 y0 y1 z0 z1 e w kC kW
theorem holds_ok_pt : go (exec (Try.prog) (8) (21) ([fV (slB 0 n c) fl ce (slB 1 m d), (a6 x0 x1 y0 y1 z0 z1)]) ([.ro 39 cs, .ro 39 rs])) [(12, .call (.mk (.int .i64 e) [.ro 39 cs, .ro 39 rs] [])), (7, .dec true)] = some (.mk (.tuple #[.bool false, .int .i64 e]) [.ro 39 cs, .ro 39 rs] [], true, [type_of% kC, (!decide (e = 0)) = true]) := by kernel_rfl
theorem holds_ok_pft : go (exec (Try.prog) (8) (21) ([fV (slB 0 n c) fl ce (slB 1 m d), (a6 x0 x1 y0 y1 z0 z1)]) ([.ro 39 cs, .ro 39 rs])) [(12, .call (.mk (.int .i64 e) [.ro 39 cs, .ro 39 rs] [])), (7, .dec false), (16, .call (.mk (.bool (decide (x0 > x1 ∨ y0 > y1 ∨ z0 > z1))) [.own 32 [.int .i64 x0, .int .i64 x1, .int .i64 y0, .int .i64 y1, .int .i64 z0, .int .i64 z1]] [])), (3, .dec true)] = some (.mk (.tuple #[.bool false, .int .i64 1]) [.ro 39 cs, .ro 39 rs] [], true, [type_of% kC, (!decide (e = 0)) = false, CallSpec Try.prog 51 [(sB 0 3 3), Value.func (Fn.func 52) #[] #[]] [.own 32 [.int .i64 x0, .int .i64 x1, .int .i64 y0, .int .i64 y1, .int .i64 z0, .int .i64 z1]] (.mk (.bool (decide (x0 > x1 ∨ y0 > y1 ∨ z0 > z1))) [.own 32 [.int .i64 x0, .int .i64 x1, .int .i64 y0, .int .i64 y1, .int .i64 z0, .int .i64 z1]] []), decide (x0 > x1 ∨ y0 > y1 ∨ z0 > z1) = true]) := by kernel_rfl
theorem holds_ok_pfftt : go (exec (Try.prog) (8) (21) ([fV (slB 0 n c) fl ce (slB 1 m d), (a6 x0 x1 y0 y1 z0 z1)]) ([.ro 39 cs, .ro 39 rs])) [(12, .call (.mk (.int .i64 e) [.ro 39 cs, .ro 39 rs] [])), (7, .dec false), (16, .call (.mk (.bool (decide (x0 > x1 ∨ y0 > y1 ∨ z0 > z1))) [.own 32 [.int .i64 x0, .int .i64 x1, .int .i64 y0, .int .i64 y1, .int .i64 z0, .int .i64 z1]] [])), (3, .dec false), (11, .dec true), (1, .dec true), (1, .dec true), (3, .dec true), (1, .dec true), (3, .dec true), (1, .dec true), (2, .dec true), (1, .dec true), (2, .dec true), (1, .dec true), (2, .dec true), (1, .dec true), (2, .dec true), (0, .call (.mk (.bool w) [.ro 39 cs] [])), (2, .dec true)] = some (.mk (.tuple #[.bool w, .int .i64 0]) [.ro 39 cs, .ro 39 rs] [], true, [type_of% kC, (!decide (e = 0)) = false, CallSpec Try.prog 51 [(sB 0 3 3), Value.func (Fn.func 52) #[] #[]] [.own 32 [.int .i64 x0, .int .i64 x1, .int .i64 y0, .int .i64 y1, .int .i64 z0, .int .i64 z1]] (.mk (.bool (decide (x0 > x1 ∨ y0 > y1 ∨ z0 > z1))) [.own 32 [.int .i64 x0, .int .i64 x1, .int .i64 y0, .int .i64 y1, .int .i64 z0, .int .i64 z1]] []), decide (x0 > x1 ∨ y0 > y1 ∨ z0 > z1) = false, decide (z0 ≥ fl) = true, decide (z0 ≥ fl) = true, decide (z0 ≥ fl) = true, decide (z0 ≥ fl) = true, decide (z0 ≥ fl) = true, decide (z0 ≥ fl) = true, decide (z0 ≥ fl) = true, decide (z1 ≤ ce) = true, decide (z1 ≤ ce) = true, decide (z1 ≤ ce) = true, decide (z1 ≤ ce) = true, decide (z1 ≤ ce) = true, decide (z1 ≤ ce) = true, decide (z1 ≤ ce) = true, CallSpec Try.prog 53 [(sB 0 n c), (a2 x0 x1), (a2 y0 y1)] [.ro 39 cs] (.mk (.bool w) [.ro 39 cs] []), decide (z1 ≤ ce) = true]) := by kernel_rfl
theorem holds_ok_pfftf : go (exec (Try.prog) (8) (21) ([fV (slB 0 n c) fl ce (slB 1 m d), (a6 x0 x1 y0 y1 z0 z1)]) ([.ro 39 cs, .ro 39 rs])) [(12, .call (.mk (.int .i64 e) [.ro 39 cs, .ro 39 rs] [])), (7, .dec false), (16, .call (.mk (.bool (decide (x0 > x1 ∨ y0 > y1 ∨ z0 > z1))) [.own 32 [.int .i64 x0, .int .i64 x1, .int .i64 y0, .int .i64 y1, .int .i64 z0, .int .i64 z1]] [])), (3, .dec false), (11, .dec true), (1, .dec true), (1, .dec true), (3, .dec true), (1, .dec true), (3, .dec true), (1, .dec true), (2, .dec false), (0, .dec false), (0, .dec false), (0, .dec false), (0, .dec false), (0, .dec false), (0, .dec false), (0, .dec false)] = some (.mk (.tuple #[.bool false, .int .i64 0]) [.ro 39 cs, .ro 39 rs] [], true, [type_of% kC, (!decide (e = 0)) = false, CallSpec Try.prog 51 [(sB 0 3 3), Value.func (Fn.func 52) #[] #[]] [.own 32 [.int .i64 x0, .int .i64 x1, .int .i64 y0, .int .i64 y1, .int .i64 z0, .int .i64 z1]] (.mk (.bool (decide (x0 > x1 ∨ y0 > y1 ∨ z0 > z1))) [.own 32 [.int .i64 x0, .int .i64 x1, .int .i64 y0, .int .i64 y1, .int .i64 z0, .int .i64 z1]] []), decide (x0 > x1 ∨ y0 > y1 ∨ z0 > z1) = false, decide (z0 ≥ fl) = true, decide (z0 ≥ fl) = true, decide (z0 ≥ fl) = true, decide (z0 ≥ fl) = true, decide (z0 ≥ fl) = true, decide (z0 ≥ fl) = true, decide (z0 ≥ fl) = true, decide (z1 ≤ ce) = false, decide (z1 ≤ ce) = false, decide (z1 ≤ ce) = false, decide (z1 ≤ ce) = false, decide (z1 ≤ ce) = false, decide (z1 ≤ ce) = false, decide (z1 ≤ ce) = false, decide (z1 ≤ ce) = false]) := by kernel_rfl
theorem holds_ok_pfff : go (exec (Try.prog) (8) (21) ([fV (slB 0 n c) fl ce (slB 1 m d), (a6 x0 x1 y0 y1 z0 z1)]) ([.ro 39 cs, .ro 39 rs])) [(12, .call (.mk (.int .i64 e) [.ro 39 cs, .ro 39 rs] [])), (7, .dec false), (16, .call (.mk (.bool (decide (x0 > x1 ∨ y0 > y1 ∨ z0 > z1))) [.own 32 [.int .i64 x0, .int .i64 x1, .int .i64 y0, .int .i64 y1, .int .i64 z0, .int .i64 z1]] [])), (3, .dec false), (11, .dec false), (0, .dec false), (0, .dec false), (0, .dec false), (0, .dec false), (0, .dec false), (0, .dec false)] = some (.mk (.tuple #[.bool false, .int .i64 0]) [.ro 39 cs, .ro 39 rs] [], true, [type_of% kC, (!decide (e = 0)) = false, CallSpec Try.prog 51 [(sB 0 3 3), Value.func (Fn.func 52) #[] #[]] [.own 32 [.int .i64 x0, .int .i64 x1, .int .i64 y0, .int .i64 y1, .int .i64 z0, .int .i64 z1]] (.mk (.bool (decide (x0 > x1 ∨ y0 > y1 ∨ z0 > z1))) [.own 32 [.int .i64 x0, .int .i64 x1, .int .i64 y0, .int .i64 y1, .int .i64 z0, .int .i64 z1]] []), decide (x0 > x1 ∨ y0 > y1 ∨ z0 > z1) = false, decide (z0 ≥ fl) = false, decide (z0 ≥ fl) = false, decide (z0 ≥ fl) = false, decide (z0 ≥ fl) = false, decide (z0 ≥ fl) = false, decide (z0 ≥ fl) = false, decide (z0 ≥ fl) = false]) := by kernel_rfl
theorem holds_ok (R : Res) (k_pt : (h0 : ¬e = 0) → Res.le (.mk (.tuple #[.bool false, .int .i64 e]) [.ro 39 cs, .ro 39 rs] []) R) (k_pft : (h0 : ¬ (¬e = 0)) → (h1 : x0 > x1 ∨ y0 > y1 ∨ z0 > z1) → Res.le (.mk (.tuple #[.bool false, .int .i64 1]) [.ro 39 cs, .ro 39 rs] []) R) (k_pfftt : (h0 : ¬ (¬e = 0)) → (h1 : ¬ (x0 > x1 ∨ y0 > y1 ∨ z0 > z1)) → (h2 : z0 ≥ fl) → (h3 : z1 ≤ ce) → Res.le (.mk (.tuple #[.bool w, .int .i64 0]) [.ro 39 cs, .ro 39 rs] []) R) (k_pfftf : (h0 : ¬ (¬e = 0)) → (h1 : ¬ (x0 > x1 ∨ y0 > y1 ∨ z0 > z1)) → (h2 : z0 ≥ fl) → (h3 : ¬ (z1 ≤ ce)) → Res.le (.mk (.tuple #[.bool false, .int .i64 0]) [.ro 39 cs, .ro 39 rs] []) R) (k_pfff : (h0 : ¬ (¬e = 0)) → (h1 : ¬ (x0 > x1 ∨ y0 > y1 ∨ z0 > z1)) → (h2 : ¬ (z0 ≥ fl)) → Res.le (.mk (.tuple #[.bool false, .int .i64 0]) [.ro 39 cs, .ro 39 rs] []) R) : CallSpec (Try.prog) (21) ([fV (slB 0 n c) fl ce (slB 1 m d), (a6 x0 x1 y0 y1 z0 z1)]) ([.ro 39 cs, .ro 39 rs]) R := by
  by_cases h0 : ¬e = 0
  · exact (CallSpec.id (go_ok (exec_ok tnamed tcalm tmixed _ _ _ _) (holds_ok_pt n c m d cs rs fl ce x0 x1 y0 y1 z0 z1 e w kC kW ) (aC (kC) (aC ((by simpa using h0)) aN)))).le (k_pt h0)
  · by_cases h1 : x0 > x1 ∨ y0 > y1 ∨ z0 > z1
    · exact (CallSpec.id (go_ok (exec_ok tnamed tcalm tmixed _ _ _ _) (holds_ok_pft n c m d cs rs fl ce x0 x1 y0 y1 z0 z1 e w kC kW ) (aC (kC) (aC ((by simpa using h0)) (aC ((up_done _ _ _ _ _ _)) (aC (dTq h1) aN)))))).le (k_pft h0 h1)
    · by_cases h2 : z0 ≥ fl
      · by_cases h3 : z1 ≤ ce
        · exact (CallSpec.id (go_ok (exec_ok tnamed tcalm tmixed _ _ _ _) (holds_ok_pfftt n c m d cs rs fl ce x0 x1 y0 y1 z0 z1 e w kC kW ) (aC (kC) (aC ((by simpa using h0)) (aC ((up_done _ _ _ _ _ _)) (aC (dFq h1) (aC (dTq h2) (aC (dTq h2) (aC (dTq h2) (aC (dTq h2) (aC (dTq h2) (aC (dTq h2) (aC (dTq h2) (aC (dTq h3) (aC (dTq h3) (aC (dTq h3) (aC (dTq h3) (aC (dTq h3) (aC (dTq h3) (aC (dTq h3) (aC ((kW (by omega))) (aC (dTq h3) aN)))))))))))))))))))))).le (k_pfftt h0 h1 h2 h3)
        · exact (CallSpec.id (go_ok (exec_ok tnamed tcalm tmixed _ _ _ _) (holds_ok_pfftf n c m d cs rs fl ce x0 x1 y0 y1 z0 z1 e w kC kW ) (aC (kC) (aC ((by simpa using h0)) (aC ((up_done _ _ _ _ _ _)) (aC (dFq h1) (aC (dTq h2) (aC (dTq h2) (aC (dTq h2) (aC (dTq h2) (aC (dTq h2) (aC (dTq h2) (aC (dTq h2) (aC (dFq h3) (aC (dFq h3) (aC (dFq h3) (aC (dFq h3) (aC (dFq h3) (aC (dFq h3) (aC (dFq h3) (aC (dFq h3) aN))))))))))))))))))))).le (k_pfftf h0 h1 h2 h3)
      · exact (CallSpec.id (go_ok (exec_ok tnamed tcalm tmixed _ _ _ _) (holds_ok_pfff n c m d cs rs fl ce x0 x1 y0 y1 z0 z1 e w kC kW ) (aC (kC) (aC ((by simpa using h0)) (aC ((up_done _ _ _ _ _ _)) (aC (dFq h1) (aC (dFq h2) (aC (dFq h2) (aC (dFq h2) (aC (dFq h2) (aC (dFq h2) (aC (dFq h2) (aC (dFq h2) aN))))))))))))).le (k_pfff h0 h1 h2)
end
section
variable (n c m d : Nat) (cs rs : List Value) (l : List X.S23) (fl ce a0 a1 b0 b1 r : Int) (ha : -536870912 ≤ a0 ∧ a0 ≤ 536870912 ∧ -536870912 ≤ a1 ∧ a1 ≤ 536870912) (hb : -536870912 ≤ b0 ∧ b0 ≤ 536870912 ∧ -536870912 ≤ b1 ∧ b1 ≤ 536870912) (hr : 0 ≤ r) (kW : ∀ (x0 x1 y0 y1 : Int), CallSpec Try.prog 53 [slB 0 n c, pV x0 x1, pV y0 y1] [.ro 39 cs] (.mk (.bool (X.withinV l x0 x1 y0 y1)) [.ro 39 cs] []))
include n c m d cs rs l fl ce a0 a1 b0 b1 r ha hb hr kW
theorem lane_ok_p : go (exec (Try.prog) (8) (56) ([fV (slB 0 n c) fl ce (slB 1 m d), pV a0 a1, pV b0 b1, .int .i64 r]) ([.ro 39 cs, .ro 39 rs])) [(38, Itm.val (.int .i64 ((if b0 < a0 then b0 else a0) - if 1073741825 < r then 1073741825 else r))), (4, Itm.val (.int .i64 ((if b0 > a0 then b0 else a0) + if 1073741825 < r then 1073741825 else r))), (34, Itm.val (.int .i64 ((if b1 < a1 then b1 else a1) - if 1073741825 < r then 1073741825 else r))), (4, Itm.val (.int .i64 ((if b1 > a1 then b1 else a1) + if 1073741825 < r then 1073741825 else r))), (15, .call (.mk (.bool (X.withinV l ((if b0 < a0 then b0 else a0) - if 1073741825 < r then 1073741825 else r) ((if b0 > a0 then b0 else a0) + if 1073741825 < r then 1073741825 else r) ((if b1 < a1 then b1 else a1) - if 1073741825 < r then 1073741825 else r) ((if b1 > a1 then b1 else a1) + if 1073741825 < r then 1073741825 else r))) [.ro 39 cs] []))] = some (.mk (.bool (X.withinV l ((if b0 < a0 then b0 else a0) - if 1073741825 < r then 1073741825 else r) ((if b0 > a0 then b0 else a0) + if 1073741825 < r then 1073741825 else r) ((if b1 < a1 then b1 else a1) - if 1073741825 < r then 1073741825 else r) ((if b1 > a1 then b1 else a1) + if 1073741825 < r then 1073741825 else r))) [.ro 39 cs, .ro 39 rs] [], true, [Value.int .i64 (IntKind.wrap .i64 ((if b0 < a0 then b0 else a0) - if 1073741825 < r then 1073741825 else r)) = .int .i64 ((if b0 < a0 then b0 else a0) - if 1073741825 < r then 1073741825 else r), Value.int .i64 (IntKind.wrap .i64 ((if b0 > a0 then b0 else a0) + if 1073741825 < r then 1073741825 else r)) = .int .i64 ((if b0 > a0 then b0 else a0) + if 1073741825 < r then 1073741825 else r), Value.int .i64 (IntKind.wrap .i64 ((if b1 < a1 then b1 else a1) - if 1073741825 < r then 1073741825 else r)) = .int .i64 ((if b1 < a1 then b1 else a1) - if 1073741825 < r then 1073741825 else r), Value.int .i64 (IntKind.wrap .i64 ((if b1 > a1 then b1 else a1) + if 1073741825 < r then 1073741825 else r)) = .int .i64 ((if b1 > a1 then b1 else a1) + if 1073741825 < r then 1073741825 else r), CallSpec Try.prog 53 [(sB 0 n c), .agg #[.int .i64 ((if b0 < a0 then b0 else a0) - if 1073741825 < r then 1073741825 else r), .int .i64 ((if b0 > a0 then b0 else a0) + if 1073741825 < r then 1073741825 else r)], .agg #[.int .i64 ((if b1 < a1 then b1 else a1) - if 1073741825 < r then 1073741825 else r), .int .i64 ((if b1 > a1 then b1 else a1) + if 1073741825 < r then 1073741825 else r)]] [.ro 39 cs] (.mk (.bool (X.withinV l ((if b0 < a0 then b0 else a0) - if 1073741825 < r then 1073741825 else r) ((if b0 > a0 then b0 else a0) + if 1073741825 < r then 1073741825 else r) ((if b1 < a1 then b1 else a1) - if 1073741825 < r then 1073741825 else r) ((if b1 > a1 then b1 else a1) + if 1073741825 < r then 1073741825 else r))) [.ro 39 cs] [])]) := by kernel_rfl
theorem lane_ok (R : Res) (k_p : Res.le (.mk (.bool (X.withinV l ((if b0 < a0 then b0 else a0) - if 1073741825 < r then 1073741825 else r) ((if b0 > a0 then b0 else a0) + if 1073741825 < r then 1073741825 else r) ((if b1 < a1 then b1 else a1) - if 1073741825 < r then 1073741825 else r) ((if b1 > a1 then b1 else a1) + if 1073741825 < r then 1073741825 else r))) [.ro 39 cs, .ro 39 rs] []) R) : CallSpec (Try.prog) (56) ([fV (slB 0 n c) fl ce (slB 1 m d), pV a0 a1, pV b0 b1, .int .i64 r]) ([.ro 39 cs, .ro 39 rs]) R := by
  exact (CallSpec.id (go_ok (exec_ok tnamed tcalm tmixed _ _ _ _) (lane_ok_p n c m d cs rs l fl ce a0 a1 b0 b1 r ha hb hr kW ) (aC (congrArg (Value.int _) (Go.IntWalk.i64_in _ (by omega))) (aC (congrArg (Value.int _) (Go.IntWalk.i64_in _ (by omega))) (aC (congrArg (Value.int _) (Go.IntWalk.i64_in _ (by omega))) (aC (congrArg (Value.int _) (Go.IntWalk.i64_in _ (by omega))) (aC ((kW _ _ _ _)) aN))))))).le (k_p )
end
section
variable (n c m d : Nat) (cs rs : List Value) (fl ce a0 a1 b0 b1 r e : Int) (w : Bool) (kC : CallSpec Try.prog 18 [fV (slB 0 n c) fl ce (slB 1 m d)] [.ro 39 cs, .ro 39 rs] (.mk (.int .i64 e) [.ro 39 cs, .ro 39 rs] [])) (kL : e = 0 → (X.inQ a0 && X.inQ a1 && (X.inQ b0 && X.inQ b1)) = true → 0 ≤ r → CallSpec Try.prog 56 [fV (slB 0 n c) fl ce (slB 1 m d), pV a0 a1, pV b0 b1, .int .i64 r] [.ro 39 cs, .ro 39 rs] (.mk (.bool w) [.ro 39 cs, .ro 39 rs] []))
include n c m d cs rs fl ce a0 a1 b0 b1 r e w kC kL
theorem Lane_ok_pt : go (exec (Try.prog) (8) (23) ([fV (slB 0 n c) fl ce (slB 1 m d), pV a0 a1, pV b0 b1, .int .i64 r]) ([.ro 39 cs, .ro 39 rs])) [(15, .call (.mk (.int .i64 e) [.ro 39 cs, .ro 39 rs] [])), (7, .dec true)] = some (.mk (.tuple #[.bool false, .int .i64 e]) [.ro 39 cs, .ro 39 rs] [], true, [type_of% kC, (!decide (e = 0)) = true]) := by kernel_rfl
theorem Lane_ok_pft : go (exec (Try.prog) (8) (23) ([fV (slB 0 n c) fl ce (slB 1 m d), pV a0 a1, pV b0 b1, .int .i64 r]) ([.ro 39 cs, .ro 39 rs])) [(15, .call (.mk (.int .i64 e) [.ro 39 cs, .ro 39 rs] [])), (7, .dec false), (24, .call (.mk (.bool (X.inQ a0 && X.inQ a1 && (X.inQ b0 && X.inQ b1))) [.own 3 [.int .i64 a0, .int .i64 a1, .int .i64 b0, .int .i64 b1]] [])), (4, .dec true)] = some (.mk (.tuple #[.bool false, .int .i64 5]) [.ro 39 cs, .ro 39 rs] [], true, [type_of% kC, (!decide (e = 0)) = false, CallSpec Try.prog 55 [(sB 0 4 4)] [.own 3 [.int .i64 a0, .int .i64 a1, .int .i64 b0, .int .i64 b1]] (.mk (.bool (X.inQ a0 && X.inQ a1 && (X.inQ b0 && X.inQ b1))) [.own 3 [.int .i64 a0, .int .i64 a1, .int .i64 b0, .int .i64 b1]] []), (!(X.inQ a0 && X.inQ a1 && (X.inQ b0 && X.inQ b1))) = true]) := by kernel_rfl
theorem Lane_ok_pfft : go (exec (Try.prog) (8) (23) ([fV (slB 0 n c) fl ce (slB 1 m d), pV a0 a1, pV b0 b1, .int .i64 r]) ([.ro 39 cs, .ro 39 rs])) [(15, .call (.mk (.int .i64 e) [.ro 39 cs, .ro 39 rs] [])), (7, .dec false), (24, .call (.mk (.bool (X.inQ a0 && X.inQ a1 && (X.inQ b0 && X.inQ b1))) [.own 3 [.int .i64 a0, .int .i64 a1, .int .i64 b0, .int .i64 b1]] [])), (4, .dec false), (3, .dec true)] = some (.mk (.tuple #[.bool false, .int .i64 1]) [.ro 39 cs, .ro 39 rs] [], true, [type_of% kC, (!decide (e = 0)) = false, CallSpec Try.prog 55 [(sB 0 4 4)] [.own 3 [.int .i64 a0, .int .i64 a1, .int .i64 b0, .int .i64 b1]] (.mk (.bool (X.inQ a0 && X.inQ a1 && (X.inQ b0 && X.inQ b1))) [.own 3 [.int .i64 a0, .int .i64 a1, .int .i64 b0, .int .i64 b1]] []), (!(X.inQ a0 && X.inQ a1 && (X.inQ b0 && X.inQ b1))) = false, decide (r < 0) = true]) := by kernel_rfl
theorem Lane_ok_pfff : go (exec (Try.prog) (8) (23) ([fV (slB 0 n c) fl ce (slB 1 m d), pV a0 a1, pV b0 b1, .int .i64 r]) ([.ro 39 cs, .ro 39 rs])) [(15, .call (.mk (.int .i64 e) [.ro 39 cs, .ro 39 rs] [])), (7, .dec false), (24, .call (.mk (.bool (X.inQ a0 && X.inQ a1 && (X.inQ b0 && X.inQ b1))) [.own 3 [.int .i64 a0, .int .i64 a1, .int .i64 b0, .int .i64 b1]] [])), (4, .dec false), (3, .dec false), (7, .call (.mk (.bool w) [.ro 39 cs, .ro 39 rs] []))] = some (.mk (.tuple #[.bool w, .int .i64 0]) [.ro 39 cs, .ro 39 rs] [], true, [type_of% kC, (!decide (e = 0)) = false, CallSpec Try.prog 55 [(sB 0 4 4)] [.own 3 [.int .i64 a0, .int .i64 a1, .int .i64 b0, .int .i64 b1]] (.mk (.bool (X.inQ a0 && X.inQ a1 && (X.inQ b0 && X.inQ b1))) [.own 3 [.int .i64 a0, .int .i64 a1, .int .i64 b0, .int .i64 b1]] []), (!(X.inQ a0 && X.inQ a1 && (X.inQ b0 && X.inQ b1))) = false, decide (r < 0) = false, CallSpec Try.prog 56 [.agg #[(sB 0 n c), .int .i64 fl, .int .i64 ce, (sB 1 m d)], (a2 a0 a1), (a2 b0 b1), .int .i64 r] [.ro 39 cs, .ro 39 rs] (.mk (.bool w) [.ro 39 cs, .ro 39 rs] [])]) := by kernel_rfl
theorem Lane_ok (R : Res) (k_pt : (h0 : ¬e = 0) → Res.le (.mk (.tuple #[.bool false, .int .i64 e]) [.ro 39 cs, .ro 39 rs] []) R) (k_pft : (h0 : ¬ (¬e = 0)) → (h1 : (!(X.inQ a0 && X.inQ a1 && (X.inQ b0 && X.inQ b1))) = true) → Res.le (.mk (.tuple #[.bool false, .int .i64 5]) [.ro 39 cs, .ro 39 rs] []) R) (k_pfft : (h0 : ¬ (¬e = 0)) → (h1 : ¬ ((!(X.inQ a0 && X.inQ a1 && (X.inQ b0 && X.inQ b1))) = true)) → (h2 : r < 0) → Res.le (.mk (.tuple #[.bool false, .int .i64 1]) [.ro 39 cs, .ro 39 rs] []) R) (k_pfff : (h0 : ¬ (¬e = 0)) → (h1 : ¬ ((!(X.inQ a0 && X.inQ a1 && (X.inQ b0 && X.inQ b1))) = true)) → (h2 : ¬ (r < 0)) → Res.le (.mk (.tuple #[.bool w, .int .i64 0]) [.ro 39 cs, .ro 39 rs] []) R) : CallSpec (Try.prog) (23) ([fV (slB 0 n c) fl ce (slB 1 m d), pV a0 a1, pV b0 b1, .int .i64 r]) ([.ro 39 cs, .ro 39 rs]) R := by
  by_cases h0 : ¬e = 0
  · exact (CallSpec.id (go_ok (exec_ok tnamed tcalm tmixed _ _ _ _) (Lane_ok_pt n c m d cs rs fl ce a0 a1 b0 b1 r e w kC kL ) (aC (kC) (aC ((by simpa using h0)) aN)))).le (k_pt h0)
  · by_cases h1 : (!(X.inQ a0 && X.inQ a1 && (X.inQ b0 && X.inQ b1))) = true
    · exact (CallSpec.id (go_ok (exec_ok tnamed tcalm tmixed _ _ _ _) (Lane_ok_pft n c m d cs rs fl ce a0 a1 b0 b1 r e w kC kL ) (aC (kC) (aC ((by simpa using h0)) (aC ((may4_done _ _ _ _)) (aC (h1) aN)))))).le (k_pft h0 h1)
    · by_cases h2 : r < 0
      · exact (CallSpec.id (go_ok (exec_ok tnamed tcalm tmixed _ _ _ _) (Lane_ok_pfft n c m d cs rs fl ce a0 a1 b0 b1 r e w kC kL ) (aC (kC) (aC ((by simpa using h0)) (aC ((may4_done _ _ _ _)) (aC ((bF h1)) (aC (dTq h2) aN))))))).le (k_pfft h0 h1 h2)
      · exact (CallSpec.id (go_ok (exec_ok tnamed tcalm tmixed _ _ _ _) (Lane_ok_pfff n c m d cs rs fl ce a0 a1 b0 b1 r e w kC kL ) (aC (kC) (aC ((by simpa using h0)) (aC ((may4_done _ _ _ _)) (aC ((bF h1)) (aC (dFq h2) (aC ((kL (by omega) (by simpa using h1) (by omega))) aN)))))))).le (k_pfff h0 h1 h2)
end
end Go.Proofs.Ytjalkjeldlchoaa.Ex
end
