/- Regions whose order is drawn: where a run stands that has done a set of the operations. -/
import Derived.Test.YtfjlaplhglfcaaaExV
namespace Go.Proofs.Ytfjlaplhglfcaaa.Ex
open Go
set_option linter.unusedVariables false
set_option linter.unusedSimpArgs false
section
variable {P : Program}
def touchT (ops : Array Oper) (t k : Nat) : Bool := match (ops[k]?).bind (·.dst) with
  | some d => d == t
  | none => false
def touchB (s : Nat → Step) (id k : Nat) : Bool := hits (s k) id
/-- A temp's value, and the level, as the done-set shows it. -/
def curT (ops : Array Oper) (f : Nat → Fr) (S : Nat → Bool) (t : Nat) : Nat × Option Value := cur (fun k => (f k).get t) (fun k => S k && touchT ops t k) ops.size
/-- A block, and the level. -/
def curB (ops : Array Oper) (h : Nat → Hp) (s : Nat → Step) (S : Nat → Bool) (id : Nat) : Nat × Blk := cur (fun k => (h k).getD id .dead) (fun k => S k && touchB s id k) ops.size
structure Stand (P : Program) (ops : Array Oper) (f : Nat → Fr) (h : Nat → Hp) (s : Nat → Step) (w0 : World) (ν0 : Nu) (m : Nat) (wx : List Nat) (S : Nat → Bool) (ν : Nu) (tmps : Array Value) (w : World) : Prop where
  tlen : (f 0).n = tmps.size
  tmp : ∀ t v, (curT ops f S t).2 = some v → ∃ v', tmps[t]? = some v' ∧ VR (below ν (h (curT ops f S t).1).length) v v'
  blk : ∀ id, RepBlk P (below ν (h (curB ops h s S id).1).length) w id (curB ops h s S id).2
  over : ∀ id, (h ops.size).length ≤ id → ν id = none
  made : ∀ k id, k < ops.size → S k = false → (h k).length ≤ id → id < (h (k + 1)).length → ν id = none
  sep : ∀ i j N K, i ≠ j → (curB ops h s S i).2.isOwn = true → (curB ops h s S j).2.live = true → ν i = some N → ν j = some K → N.g ≠ K.g
  len : m ≤ (h 0).length
  same : ∀ id, id < m → ν id = ν0 id
  os : w.os = w0.os
  tape : w.tape = w0.tape
  output : w.output = w0.output
  size : w0.heap.size ≤ w.heap.size
  frame : ∀ g, g < w0.heap.size → (∀ id N, id < m → (id ∈ wx ∨ ∃ k, k < ops.size ∧ S k = true ∧ id ∈ (s k).wr) → ν0 id = some N → N.g ≠ g) → w.heap[g]? = w0.heap[g]?
  fresh : ∀ id N, m ≤ id → (curB ops h s S id).2.live = true → ν id = some N → w0.heap.size ≤ N.g ∨ ∃ j K, j < m ∧ (j ∈ wx ∨ ∃ k, k < ops.size ∧ S k = true ∧ j ∈ (s k).wr) ∧ ν0 j = some K ∧ K.g = N.g
theorem cur_none {α : Type} {g : Nat → α} {hit : Nat → Bool} (h : ∀ k, hit k = false) : ∀ n, cur g hit n = (0, g 0)
  | 0 => rfl
  | n + 1 => by
    unfold cur
    rw [if_neg (by rw [h]; simp)]
    exact cur_none h n
/-- Nothing done yet. -/
theorem Stand.init {ops : Array Oper} {f : Nat → Fr} {h : Nat → Hp} {s : Nat → Step} {w0 : World} {ν0 : Nu} {m : Nat} {wx : List Nat} {ν : Nu} {tmps : Array Value} {w : World}
    (hmono : ∀ k, k ≤ ops.size → (h 0).length ≤ (h k).length) (hi : Inv P w0 ν0 m ν (h 0) wx w) (hf : FrRel ν (f 0) tmps) : Stand P ops f h s w0 ν0 m wx (fun _ => false) ν tmps w := by
  have eT : ∀ t, curT ops f (fun _ => false) t = (0, (f 0).get t) := fun t => cur_none (fun _ => by simp) _
  have eB : ∀ id, curB ops h s (fun _ => false) id = (0, (h 0).getD id .dead) := fun id => cur_none (fun _ => by simp) _
  have hle : Le ν (below ν (h 0).length) := fun id N hN => by
    rcases Nat.lt_or_ge id (h 0).length with c | c
    · rw [below_in c]; exact hN
    · rw [hi.rep.dom id c] at hN; cases hN
  refine ⟨hf.1, fun t v hv => ?_, fun id => ?_, fun id hid => hi.rep.dom id (Nat.le_trans (hmono _ (Nat.le_refl _)) hid), fun k id hk _ hid _ => hi.rep.dom id (Nat.le_trans (hmono k (Nat.le_of_lt hk)) hid), fun i j N K hij h1 h2 => ?_, hi.len, hi.same, hi.os, hi.tape, hi.output, hi.size, fun g hg hfr => hi.frame g hg fun id N hid hw hN => hfr id N hid (.inl hw) hN, fun id N hid hl hN => ?_⟩
  · rw [eT] at hv ⊢
    obtain ⟨v', h1, h2⟩ := hf.2 t v hv
    exact ⟨v', h1, h2.le hle⟩
  · rw [eB]
    exact (hi.rep.blk id).up hle
  · rw [eB] at h1 h2
    exact hi.rep.sep i j N K hij h1 h2
  · rw [eB] at hl
    rcases hi.fresh id N hid hl hN with k | ⟨j, K, k1, k2, k3⟩
    · exact .inl k
    · exact .inr ⟨j, K, k1, .inl k2, k3⟩
/-- All done. -/
theorem Stand.final {ops : Array Oper} {f : Nat → Fr} {h : Nat → Hp} {s : Nat → Step} {w0 : World} {ν0 : Nu} {m : Nat} {wx wr : List Nat} {S : Nat → Bool} {ν : Nu} {tmps : Array Value} {w : World}
    (hmono : (h 0).length ≤ (h ops.size).length) (hflen : (f ops.size).n = (f 0).n) (hS : ∀ k, k < ops.size → S k = true) (hwr : ∀ id, id ∈ wr ↔ ∃ k, k < ops.size ∧ id ∈ (s k).wr)
    (hgT : ∀ t k, k < ops.size → touchT ops t k = false → (f (k + 1)).get t = (f k).get t) (hgB : ∀ id k, k < ops.size → touchB s id k = false → (h (k + 1)).getD id .dead = (h k).getD id .dead)
    (st : Stand P ops f h s w0 ν0 m wx S ν tmps w) : Inv P w0 ν0 m ν (h ops.size) (wr ++ wx) w ∧ FrRel ν (f ops.size) tmps := by
  have eT : ∀ t, (curT ops f S t).2 = (f ops.size).get t := fun t => (cur_at (i := ops.size) (n := ops.size) (g := fun k => (f k).get t) (fun k hk ht => hgT t k hk ht) (Nat.le_refl _) (fun k hk _ => hS k hk) (fun k h1 h2 _ => by omega)).2
  have eB : ∀ id, (curB ops h s S id).2 = (h ops.size).getD id .dead := fun id => (cur_at (i := ops.size) (n := ops.size) (g := fun k => (h k).getD id .dead) (fun k hk ht => hgB id k hk ht) (Nat.le_refl _) (fun k hk _ => hS k hk) (fun k h1 h2 _ => by omega)).2
  have hw : ∀ id, (id ∈ wx ∨ ∃ k, k < ops.size ∧ S k = true ∧ id ∈ (s k).wr) → id ∈ wr ++ wx := fun id hid => by
    rcases hid with hid | ⟨k, k1, _, k3⟩
    · simp [hid]
    · exact List.mem_append.2 (.inl ((hwr id).2 ⟨k, k1, k3⟩))
  refine ⟨⟨⟨st.over, fun id => ?_, fun i j N K hij h1 h2 => ?_⟩, Nat.le_trans st.len hmono, st.same, st.os, st.tape, st.output, st.size, fun g hg hfr => st.frame g hg fun id N hid hw' hN => hfr id N hid (hw id hw') hN, fun id N hid hl hN => ?_⟩, hflen.trans st.tlen, fun t v hv => ?_⟩
  · have := (st.blk id).up below_le
    rw [eB] at this
    exact this
  · rw [← eB] at h1 h2
    exact st.sep i j N K hij h1 h2
  · rw [← eB] at hl
    rcases st.fresh id N hid hl hN with k | ⟨j, K, k1, k2, k3⟩
    · exact .inl k
    · exact .inr ⟨j, K, k1, hw j k2, k3⟩
  · rw [← eT] at hv
    obtain ⟨v', h1, h2⟩ := st.tmp t v hv
    exact ⟨v', h1, h2.le below_le⟩
end
end Go.Proofs.Ytfjlaplhglfcaaa.Ex
