import Derived.Test.YtbolppjlaipfjaaYBase1
import Derived.Orders
import Derived.LoopN
import Derived.KernelRfl
import Derived.IntWalk
import Derived.Test.YtbolppjlaipfjaaChecked
import Derived.SizedLaws
import Derived.ChangeSlices
import Derived.OpenShut
import Derived.Deep.Slices
import Derived.ShutString
import Derived.ChangeOld
import Derived.Below
import Derived.Carry
import Derived.WalkKit
import Derived.ProofKit
import Derived.Recover
section
set_option linter.unusedSectionVars false
set_option linter.unusedSimpArgs false
set_option linter.unusedVariables false
namespace Go.Proofs.Ytbolppjlaipfjaa.Ex
open Go
set_option linter.unusedVariables false
set_option linter.unusedSimpArgs false
theorem fold_push {β : Type} (f : Array Nat → β → Nat) : ∀ (l : List β) (acc : Array Nat),
    (l.foldl (fun acc o => acc.push (f acc o)) acc).size = acc.size + l.length ∧ (∀ k, k < acc.size → (l.foldl (fun acc o => acc.push (f acc o)) acc)[k]? = acc[k]?) ∧
    ∀ k o, l[k]? = some o → ∃ acc' : Array Nat, acc'.size = acc.size + k ∧ (∀ m, m < acc'.size → (l.foldl (fun acc o => acc.push (f acc o)) acc)[m]? = acc'[m]?) ∧ (l.foldl (fun acc o => acc.push (f acc o)) acc)[acc.size + k]? = some (f acc' o)
  | [], acc => ⟨rfl, fun _ _ => rfl, fun k o h => by simp at h⟩
  | x :: l, acc => by
    obtain ⟨h1, h2, h3⟩ := fold_push f l (acc.push (f acc x))
    rw [List.foldl_cons]
    refine ⟨by rw [h1]; simp; omega, fun k hk => ?_, fun k o hk => ?_⟩
    · rw [h2 k (by simp; omega), Array.getElem?_push, if_neg (by omega)]
    · cases k with
      | zero =>
        cases hk
        refine ⟨acc, rfl, fun m hm => ?_, ?_⟩
        · rw [h2 m (by simp; omega), Array.getElem?_push, if_neg (by omega)]
        · rw [Nat.add_zero, h2 acc.size (by simp)]
          simp
      | succ k =>
        obtain ⟨acc', k1, k2, k3⟩ := h3 k o (by simpa using hk)
        refine ⟨acc', by rw [k1]; simp; omega, k2, ?_⟩
        rw [← k3]
        congr 1
        simp
        omega
theorem edges_bit {md : Region.Mode} {acc : Array Nat} {i : Nat} : ∀ (es : List Edge) (s : Nat), (es.foldl (fun s e => if Region.binds md e then s ||| 2 ^ e.on ||| acc.getD e.on 0 else s) s).testBit i = true →
    s.testBit i = true ∨ ∃ e, e ∈ es ∧ Region.binds md e = true ∧ (i = e.on ∨ (acc.getD e.on 0).testBit i = true)
  | [], s, h => .inl h
  | e :: es, s, h => by
    rw [List.foldl_cons] at h
    rcases edges_bit es _ h with h | ⟨e', k1, k2⟩
    · split at h
      · rename_i hb
        rw [Nat.testBit_or, Nat.testBit_or, Bool.or_eq_true, Bool.or_eq_true, Nat.testBit_two_pow] at h
        rcases h with (h | h) | h
        · exact .inl h
        · exact .inr ⟨e, by simp, hb, .inl (by simpa using (of_decide_eq_true h).symm)⟩
        · exact .inr ⟨e, by simp, hb, .inr h⟩
      · exact .inl h
    · exact .inr ⟨e', by simp [k1], k2⟩
theorem before_edge {ops : Array Oper} {i j : Nat} (h : ((Region.before ops).getD j 0).testBit i = true) :
    ∃ o e, ops[j]? = some o ∧ e ∈ o.after.toList ∧ Region.binds .any e = true ∧ (i = e.on ∨ (e.on < j ∧ ((Region.before ops).getD e.on 0).testBit i = true)) := by
  unfold Region.before at h ⊢
  rw [← Array.foldl_toList] at h ⊢
  have key := fold_push (fun (acc : Array Nat) (o : Oper) => o.after.foldl (fun s e => if Region.binds .any e then s ||| 2 ^ e.on ||| acc.getD e.on 0 else s) 0) ops.toList #[]
  revert h key
  generalize ops.toList.foldl (fun acc o => acc.push (o.after.foldl (fun s e => if Region.binds .any e then s ||| 2 ^ e.on ||| acc.getD e.on 0 else s) 0)) #[] = R
  intro h key
  obtain ⟨h1, _, h3⟩ := key
  have hj : j < ops.size := by
    rcases Nat.lt_or_ge j ops.size with c | c
    · exact c
    · rw [Array.getD_eq_getD_getElem?, Array.getElem?_eq_none (by rw [h1]; simp; omega)] at h
      simp at h
  obtain ⟨acc', k1, k2, k3⟩ := h3 j ops[j] (by simp [hj])
  simp only [List.size_toArray, List.length_nil, Nat.zero_add] at k1 k3
  rw [Array.getD_eq_getD_getElem?, k3, Option.getD_some, ← Array.foldl_toList] at h
  rcases edges_bit _ _ h with h | ⟨e, q1, q2, q3⟩
  · simp at h
  · refine ⟨ops[j], e, by simp [hj], q1, q2, q3.imp id fun hb => ?_⟩
    rcases Nat.lt_or_ge e.on acc'.size with c | c
    · refine ⟨by omega, ?_⟩
      rw [Array.getD_eq_getD_getElem?, k2 e.on c, ← Array.getD_eq_getD_getElem?]
      exact hb
    · rw [Array.getD_eq_getD_getElem?, Array.getElem?_eq_none c] at hb
      simp at hb
theorem before_closed {ops : Array Oper} {S : Nat → Prop} (hS : ∀ j o e, S j → ops[j]? = some o → e ∈ o.after.toList → Region.binds .any e = true → S e.on) : ∀ (j i : Nat), S j → ((Region.before ops).getD j 0).testBit i = true → S i := by
  intro j
  induction j using Nat.strongRecOn with
  | _ j ih =>
    intro i hj hb
    obtain ⟨o, e, h1, h2, h3, h4⟩ := before_edge hb
    have he := hS j o e hj h1 h2 h3
    rcases h4 with rfl | ⟨hlt, hb'⟩
    · exact he
    · exact ih e.on hlt i he hb'
end Go.Proofs.Ytbolppjlaipfjaa.Ex
namespace Go.Proofs.Ytbolppjlaipfjaa.Ex
open Go
set_option linter.unusedVariables false
set_option linter.unusedSimpArgs false
section
variable {P : Program}
def Seen (all : Array Oper) (ν : Nu) (fr : Fr) (tmps : Array Value) (o : Oper) : Prop := ∀ d v, d ∈ o.looksAt all → fr.get d = some v → ∃ v', tmps[d]? = some v' ∧ VR ν v v'
def Wants (all : Array Oper) (fr : Fr) (o : Oper) (b : Bool) : Prop := ∀ ν (tmps : Array Value), Seen all ν fr tmps o → Region.wanted o (yielded all tmps) = b
theorem wants_sat {ops : Array Oper} {fr : Fr} {o : Oper} : Sat (wantA ops fr o) (Wants ops fr o) := by
  unfold wantA
  split
  · rename_i hg
    exact Sat.ret _ fun ν tmps h => by simp [Region.wanted, hg]
  · rename_i j want hg
    split
    · rename_i hd
      exact Sat.ret _ fun ν tmps h => by simp [Region.wanted, hg, yielded, hd]
    · rename_i d hd
      have hin : d ∈ o.looksAt ops := by simp [Oper.looksAt, hg, hd]
      split
      · rename_i b hb
        refine Sat.bind_ask (Sat.ret _ fun ν tmps h => ?_)
        obtain ⟨v', h1, h2⟩ := h d _ hin hb
        have : v' = .bool b := h2
        subst this
        simp [Region.wanted, hg, yielded, hd, h1]
      · rename_i hb
        refine Sat.ret _ fun ν tmps h => ?_
        obtain ⟨v', h1, h2⟩ := h d _ hin hb
        obtain ⟨cs', rfl, hl⟩ := h2
        simp [Region.wanted, hg, yielded, hd, h1]
      · exact Sat.stop
def OneStep (P : Program) (all : Array Oper) (o : Oper) (fr : Fr) (hp : Hp) (fr' : Fr) (hp' : Hp) (s : Step) : Prop :=
  (Wants all fr o true ∧ ∃ r, OpOk P (footA P fr hp o) fr hp o r ∧ fr' = putT fr o.dst r.v ∧ hp' = r.hp ∧ s = ⟨footA P fr hp o, r.wr, hp.length, r.hp.length⟩) ∨
  (Wants all fr o false ∧ fr' = putT fr o.dst undef ∧ hp' = hp ∧ s = ⟨[], [], hp.length, hp.length⟩)
theorem seqs_sat {call : CallF} (hN : Named P) (hcall : Sound P call) {all : Array Oper} : ∀ (os : List Oper) (fr : Fr) (hp : Hp) (wr : List Nat) (st : List Step),
    Sat (opsA P call all os fr hp wr st) fun r => ∃ (f : Nat → Fr) (h : Nat → Hp) (s : Nat → Step), f 0 = fr ∧ h 0 = hp ∧ (∀ k o, os[k]? = some o → OneStep P all o (f k) (h k) (f (k + 1)) (h (k + 1)) (s k)) ∧
      f os.length = r.1 ∧ h os.length = r.2.1 ∧ (∀ id, id ∈ r.2.2.1 ↔ id ∈ wr ∨ ∃ k, k < os.length ∧ id ∈ (s k).wr) ∧ r.2.2.2 = st.reverse ++ (List.range os.length).map s
  | [], fr, hp, wr, st => Sat.ret _ ⟨fun _ => fr, fun _ => hp, fun _ => ⟨[], [], 0, 0⟩, rfl, rfl, fun k o h => by simp at h, rfl, rfl, fun id => ⟨.inl, fun h => h.elim (fun x => x) (fun ⟨k, hk, _⟩ => by simp at hk)⟩, by simp⟩
  | o :: os, fr, hp, wr, st => by
    have glue : ∀ (fr1 : Fr) (hp1 : Hp) (s0 : Step), OneStep P all o fr hp fr1 hp1 s0 → ∀ wr1 : List Nat, (∀ id, id ∈ wr1 ↔ id ∈ s0.wr ∨ id ∈ wr) → ∀ r : Fr × Hp × List Nat × List Step,
        (∃ (f : Nat → Fr) (h : Nat → Hp) (s : Nat → Step), f 0 = fr1 ∧ h 0 = hp1 ∧ (∀ k o, os[k]? = some o → OneStep P all o (f k) (h k) (f (k + 1)) (h (k + 1)) (s k)) ∧
          f os.length = r.1 ∧ h os.length = r.2.1 ∧ (∀ id, id ∈ r.2.2.1 ↔ id ∈ wr1 ∨ ∃ k, k < os.length ∧ id ∈ (s k).wr) ∧ r.2.2.2 = (s0 :: st).reverse ++ (List.range os.length).map s) →
        ∃ (f : Nat → Fr) (h : Nat → Hp) (s : Nat → Step), f 0 = fr ∧ h 0 = hp ∧ (∀ k o', (o :: os)[k]? = some o' → OneStep P all o' (f k) (h k) (f (k + 1)) (h (k + 1)) (s k)) ∧
          f (o :: os).length = r.1 ∧ h (o :: os).length = r.2.1 ∧ (∀ id, id ∈ r.2.2.1 ↔ id ∈ wr ∨ ∃ k, k < (o :: os).length ∧ id ∈ (s k).wr) ∧ r.2.2.2 = st.reverse ++ (List.range (o :: os).length).map s := by
      rintro fr1 hp1 s0 h0 wr1 hw1 r ⟨f, h, s, e1, e2, e3, e4, e5, e6, e7⟩
      refine ⟨fun k => match k with | 0 => fr | k + 1 => f k, fun k => match k with | 0 => hp | k + 1 => h k, fun k => match k with | 0 => s0 | k + 1 => s k, rfl, rfl, ?_, e4, e5, ?_, ?_⟩
      · intro k o' hk
        cases k with
        | zero =>
          simp only [List.getElem?_cons_zero, Option.some.injEq] at hk
          subst hk
          show OneStep P all o fr hp (f 0) (h 0) s0
          rw [e1, e2]
          exact h0
        | succ k => exact e3 k o' (by simpa using hk)
      · intro id
        rw [e6, hw1]
        constructor
        · rintro ((h | h) | ⟨k, hk, h⟩)
          · exact .inr ⟨0, by simp, h⟩
          · exact .inl h
          · exact .inr ⟨k + 1, by simp; omega, h⟩
        · rintro (h | ⟨k, hk, h⟩)
          · exact .inl (.inr h)
          · cases k with
            | zero => exact .inl (.inl h)
            | succ k => exact .inr ⟨k, by simp at hk; omega, h⟩
      · rw [e7, List.length_cons, List.range_succ_eq_map]
        simp
    unfold opsA
    refine Sat.bind wants_sat fun b hb => ?_
    split
    · rename_i hbt
      subst hbt
      refine Sat.bind (opS_sat (F := footA P fr hp o) hN (fun g args hids => hcall _ g args hp hids) fun id hid => hid) fun r hr => (seqs_sat hN hcall os _ _ _ _).mono fun q hq => ?_
      exact glue _ _ ⟨footA P fr hp o, r.wr, hp.length, r.hp.length⟩ (.inl ⟨hb, r, hr, rfl, rfl, rfl⟩) _ (fun id => by simp) q hq
    · rename_i hbf
      have hbf : b = false := by simpa using hbf
      subst hbf
      refine (seqs_sat hN hcall os _ _ _ _).mono fun q hq => ?_
      exact glue _ _ ⟨[], [], hp.length, hp.length⟩ (.inr ⟨hb, rfl, rfl, rfl⟩) _ (fun id => by simp) q hq
end
end Go.Proofs.Ytbolppjlaipfjaa.Ex
namespace Go.Proofs.Ytbolppjlaipfjaa.Ex
open Go
set_option linter.unusedVariables false
set_option linter.unusedSimpArgs false
section
variable {α : Type}
def cur (g : Nat → α) (hit : Nat → Bool) : Nat → Nat × α
  | 0 => (0, g 0)
  | n + 1 => if hit n = true then (n + 1, g (n + 1)) else cur g hit n
theorem cur_stay {g : Nat → α} {hit : Nat → Bool} {i : Nat} : ∀ (n : Nat), i ≤ n → (∀ k, i ≤ k → k < n → hit k = false) → cur g hit n = cur g hit i
  | 0, h, _ => by obtain rfl : i = 0 := by omega
                  rfl
  | n + 1, h, hk => by
    by_cases c : i = n + 1
    · rw [c]
    · unfold cur
      rw [if_neg (by rw [hk n (by omega) (by omega)]; simp)]
      exact (cur_stay n (by omega) fun k h1 h2 => hk k h1 (by omega)).trans (by cases i <;> rfl)
theorem cur_level {g : Nat → α} {hit : Nat → Bool} : ∀ n, (cur g hit n).1 ≤ n ∧ (cur g hit n).2 = g (cur g hit n).1
  | 0 => ⟨Nat.le_refl _, rfl⟩
  | n + 1 => by
    unfold cur
    split
    · exact ⟨Nat.le_refl _, rfl⟩
    · exact ⟨Nat.le_succ_of_le (cur_level n).1, (cur_level n).2⟩
theorem cur_at {g : Nat → α} {S touch : Nat → Bool} {i n : Nat} (hg : ∀ k, k < n → touch k = false → g (k + 1) = g k) (hi : i ≤ n) (h1 : ∀ k, k < i → touch k = true → S k = true) (h2 : ∀ k, i ≤ k → k < n → touch k = true → S k = false) :
    (cur g (fun k => S k && touch k) n).1 ≤ i ∧ (cur g (fun k => S k && touch k) n).2 = g i := by
  rw [cur_stay n hi fun k hk hkn => by
    cases ht : touch k with
    | false => simp
    | true => rw [h2 k hk hkn ht]; rfl]
  refine ⟨(cur_level i).1, ?_⟩
  have key : ∀ m, m ≤ i → (cur g (fun k => S k && touch k) m).2 = g m := by
    intro m
    induction m with
    | zero => intro _; rfl
    | succ m ih =>
      intro hm
      unfold cur
      cases ht : touch m with
      | true => rw [h1 m (by omega) ht]; rfl
      | false =>
        rw [if_neg (by simp), hg m (by omega) ht]
        exact ih (by omega)
  exact key i (Nat.le_refl _)
theorem cur_done {g : Nat → α} {S S' touch : Nat → Bool} {i n : Nat} (hi : i < n) (hS : S' i = true) (ht : touch i = true) (h2 : ∀ k, i < k → k < n → touch k = true → S' k = false) :
    cur g (fun k => S' k && touch k) n = (i + 1, g (i + 1)) := by
  rw [cur_stay (i := i + 1) n (by omega) fun k hk hkn => by
    cases hk' : touch k with
    | false => simp
    | true => rw [h2 k (by omega) hkn hk']; rfl]
  unfold cur
  rw [if_pos (by simp [hS, ht])]
theorem cur_other {g : Nat → α} {S S' touch : Nat → Bool} {i : Nat} (hS : ∀ k, k ≠ i → S' k = S k) (ht : touch i = false) : ∀ n, cur g (fun k => S' k && touch k) n = cur g (fun k => S k && touch k) n
  | 0 => rfl
  | n + 1 => by
    unfold cur
    by_cases c : n = i
    · subst c
      simp only [ht, Bool.and_false, Bool.false_eq_true, if_false]
      exact cur_other hS ht n
    · simp only [hS n c]
      split
      · rfl
      · exact cur_other hS ht n
end
end Go.Proofs.Ytbolppjlaipfjaa.Ex
namespace Go.Proofs.Ytbolppjlaipfjaa.Ex
open Go
set_option linter.unusedVariables false
set_option linter.unusedSimpArgs false
section
variable {P : Program} {fr : Fr} {o : Oper} {ν : Nu}
theorem Seen.env {all : Array Oper} {a : Act} (h : Seen all ν fr a.tmps o) : Env ν fr a o := fun x hx v hv => by
  cases x with
  | tmp t =>
    have hin : t ∈ o.looksAt all := by
      unfold Oper.looksAt
      exact List.mem_append.2 (.inl (List.mem_filterMap.2 ⟨.tmp t, by simpa using hx, rfl⟩))
    obtain ⟨v', h1, h2⟩ := h t v hin hv
    have : a.eval (.tmp t) = v' := by simp [Act.eval, h1]
    rw [this]
    exact h2
  | const c =>
    simp only [val] at hv
    split at hv
    · rename_i hf
      cases hv
      exact (flat_VR hf _).2 rfl
    · cases hv
  | func f => cases hv; exact ⟨#[], #[], rfl, .nil, .nil⟩
  | global g => cases hv
def below (ν : Nu) (n : Nat) : Nu := fun id => if id < n then ν id else none
theorem below_le {n : Nat} : Le (below ν n) ν := fun id N h => by
  unfold below at h
  split at h
  · exact h
  · cases h
theorem below_mono {n k : Nat} (hnk : n ≤ k) : Le (below ν n) (below ν k) := fun id N h => by
  unfold below at h ⊢
  split at h
  · rw [if_pos (by omega)]; exact h
  · cases h
theorem below_out {n id : Nat} (h : n ≤ id) : below ν n id = none := if_neg (by omega)
theorem below_in {n id : Nat} (h : id < n) : below ν n id = ν id := if_pos h
theorem RepBlk.up {w : World} {id : Nat} {b : Blk} {ν' : Nu} (h : Le ν ν') (hb : RepBlk P ν w id b) : RepBlk P ν' w id b := hb.le h (fun _ _ _ => rfl) (Nat.le_refl _)
end
end Go.Proofs.Ytbolppjlaipfjaa.Ex
namespace Go.Proofs.Ytbolppjlaipfjaa.Ex
open Go
set_option linter.unusedVariables false
set_option linter.unusedSimpArgs false
section
variable {P : Program}
def touchT (ops : Array Oper) (t k : Nat) : Bool := match (ops[k]?).bind (·.dst) with
  | some d => d == t
  | none => false
def touchB (s : Nat → Step) (id k : Nat) : Bool := hits (s k) id
def curT (ops : Array Oper) (f : Nat → Fr) (S : Nat → Bool) (t : Nat) : Nat × Option Value := cur (fun k => (f k).get t) (fun k => S k && touchT ops t k) ops.size
def curB (ops : Array Oper) (h : Nat → Hp) (s : Nat → Step) (S : Nat → Bool) (id : Nat) : Nat × Blk := cur (fun k => (h k).getD id .dead) (fun k => S k && touchB s id k) ops.size
structure Stand (P : Program) (ops : Array Oper) (f : Nat → Fr) (h : Nat → Hp) (s : Nat → Step) (w0 : World) (ν0 : Nu) (m : Nat) (wx : List Nat) (S : Nat → Bool) (ν : Nu) (tmps : Array Value) (w : World) : Prop where
  tlen : (f 0).n = tmps.size
  tmp : ∀ t v, (curT ops f S t).2 = some v → ∃ v', tmps[t]? = some v' ∧ VR (below ν (h (curT ops f S t).1).length) v v'
  blk : ∀ id, RepBlk P (below ν (h (curB ops h s S id).1).length) w id (curB ops h s S id).2
  over : ∀ id, (h ops.size).length ≤ id → ν id = none
  made : ∀ k id, k < ops.size → S k = false → (h k).length ≤ id → id < (h (k + 1)).length → ν id = none
  sep : ∀ i j N K, i ≠ j → (curB ops h s S i).2.isOwn = true → (curB ops h s S j).2.live = true → ν i = some N → ν j = some K → N.g ≠ K.g
  len : m ≤ (h 0).length
  same : ∀ id, id < m → ν id = ν0 id
  os : w.os = w0.os
  tape : w.tape = w0.tape
  output : w.output = w0.output
  size : w0.heap.size ≤ w.heap.size
  frame : ∀ g, g < w0.heap.size → (∀ id N, id < m → (id ∈ wx ∨ ∃ k, k < ops.size ∧ S k = true ∧ id ∈ (s k).wr) → ν0 id = some N → N.g ≠ g) → w.heap[g]? = w0.heap[g]?
  fresh : ∀ id N, m ≤ id → (curB ops h s S id).2.live = true → ν id = some N → w0.heap.size ≤ N.g ∨ ∃ j K, j < m ∧ (j ∈ wx ∨ ∃ k, k < ops.size ∧ S k = true ∧ j ∈ (s k).wr) ∧ ν0 j = some K ∧ K.g = N.g
theorem cur_none {α : Type} {g : Nat → α} {hit : Nat → Bool} (h : ∀ k, hit k = false) : ∀ n, cur g hit n = (0, g 0)
  | 0 => rfl
  | n + 1 => by
    unfold cur
    rw [if_neg (by rw [h]; simp)]
    exact cur_none h n
theorem Stand.init {ops : Array Oper} {f : Nat → Fr} {h : Nat → Hp} {s : Nat → Step} {w0 : World} {ν0 : Nu} {m : Nat} {wx : List Nat} {ν : Nu} {tmps : Array Value} {w : World}
    (hmono : ∀ k, k ≤ ops.size → (h 0).length ≤ (h k).length) (hi : Inv P w0 ν0 m ν (h 0) wx w) (hf : FrRel ν (f 0) tmps) : Stand P ops f h s w0 ν0 m wx (fun _ => false) ν tmps w := by
  have eT : ∀ t, curT ops f (fun _ => false) t = (0, (f 0).get t) := fun t => cur_none (fun _ => by simp) _
  have eB : ∀ id, curB ops h s (fun _ => false) id = (0, (h 0).getD id .dead) := fun id => cur_none (fun _ => by simp) _
  have hle : Le ν (below ν (h 0).length) := fun id N hN => by
    rcases Nat.lt_or_ge id (h 0).length with c | c
    · rw [below_in c]; exact hN
    · rw [hi.rep.dom id c] at hN; cases hN
  refine ⟨hf.1, fun t v hv => ?_, fun id => ?_, fun id hid => hi.rep.dom id (Nat.le_trans (hmono _ (Nat.le_refl _)) hid), fun k id hk _ hid _ => hi.rep.dom id (Nat.le_trans (hmono k (Nat.le_of_lt hk)) hid), fun i j N K hij h1 h2 => ?_, hi.len, hi.same, hi.os, hi.tape, hi.output, hi.size, fun g hg hfr => hi.frame g hg fun id N hid hw hN => hfr id N hid (.inl hw) hN, fun id N hid hl hN => ?_⟩
  · rw [eT] at hv ⊢
    obtain ⟨v', h1, h2⟩ := hf.2 t v hv
    exact ⟨v', h1, h2.le hle⟩
  · rw [eB]
    exact (hi.rep.blk id).up hle
  · rw [eB] at h1 h2
    exact hi.rep.sep i j N K hij h1 h2
  · rw [eB] at hl
    rcases hi.fresh id N hid hl hN with k | ⟨j, K, k1, k2, k3⟩
    · exact .inl k
    · exact .inr ⟨j, K, k1, .inl k2, k3⟩
theorem Stand.final {ops : Array Oper} {f : Nat → Fr} {h : Nat → Hp} {s : Nat → Step} {w0 : World} {ν0 : Nu} {m : Nat} {wx wr : List Nat} {S : Nat → Bool} {ν : Nu} {tmps : Array Value} {w : World}
    (hmono : (h 0).length ≤ (h ops.size).length) (hflen : (f ops.size).n = (f 0).n) (hS : ∀ k, k < ops.size → S k = true) (hwr : ∀ id, id ∈ wr ↔ ∃ k, k < ops.size ∧ id ∈ (s k).wr)
    (hgT : ∀ t k, k < ops.size → touchT ops t k = false → (f (k + 1)).get t = (f k).get t) (hgB : ∀ id k, k < ops.size → touchB s id k = false → (h (k + 1)).getD id .dead = (h k).getD id .dead)
    (st : Stand P ops f h s w0 ν0 m wx S ν tmps w) : Inv P w0 ν0 m ν (h ops.size) (wr ++ wx) w ∧ FrRel ν (f ops.size) tmps := by
  have eT : ∀ t, (curT ops f S t).2 = (f ops.size).get t := fun t => (cur_at (i := ops.size) (n := ops.size) (g := fun k => (f k).get t) (fun k hk ht => hgT t k hk ht) (Nat.le_refl _) (fun k hk _ => hS k hk) (fun k h1 h2 _ => by omega)).2
  have eB : ∀ id, (curB ops h s S id).2 = (h ops.size).getD id .dead := fun id => (cur_at (i := ops.size) (n := ops.size) (g := fun k => (h k).getD id .dead) (fun k hk ht => hgB id k hk ht) (Nat.le_refl _) (fun k hk _ => hS k hk) (fun k h1 h2 _ => by omega)).2
  have hw : ∀ id, (id ∈ wx ∨ ∃ k, k < ops.size ∧ S k = true ∧ id ∈ (s k).wr) → id ∈ wr ++ wx := fun id hid => by
    rcases hid with hid | ⟨k, k1, _, k3⟩
    · simp [hid]
    · exact List.mem_append.2 (.inl ((hwr id).2 ⟨k, k1, k3⟩))
  refine ⟨⟨⟨st.over, fun id => ?_, fun i j N K hij h1 h2 => ?_⟩, Nat.le_trans st.len hmono, st.same, st.os, st.tape, st.output, st.size, fun g hg hfr => st.frame g hg fun id N hid hw' hN => hfr id N hid (hw id hw') hN, fun id N hid hl hN => ?_⟩, hflen.trans st.tlen, fun t v hv => ?_⟩
  · have := (st.blk id).up below_le
    rw [eB] at this
    exact this
  · rw [← eB] at h1 h2
    exact st.sep i j N K hij h1 h2
  · rw [← eB] at hl
    rcases st.fresh id N hid hl hN with k | ⟨j, K, k1, k2, k3⟩
    · exact .inl k
    · exact .inr ⟨j, K, k1, hw j k2, k3⟩
  · rw [← eT] at hv
    obtain ⟨v', h1, h2⟩ := st.tmp t v hv
    exact ⟨v', h1, h2.le below_le⟩
end
end Go.Proofs.Ytbolppjlaipfjaa.Ex
namespace Go.Proofs.Ytbolppjlaipfjaa.Ex
open Go
set_option linter.unusedVariables false
set_option linter.unusedSimpArgs false
section
variable {P : Program} {all : Array Oper} {o : Oper} {fr fr' : Fr} {hp hp' : Hp} {s : Step}
theorem putT_len (d : Option Tmp) (v : Value) : (putT fr d v).n = fr.n := by
  cases d with
  | none => rfl
  | some d => exact Fr.set_n _ _ _
theorem putT_ne {d : Option Tmp} {v : Value} {t : Nat} (h : d ≠ some t) : (putT fr d v).get t = fr.get t := by
  cases d with
  | none => rfl
  | some d => exact Fr.get_ne _ _ (fun c => h (by rw [c]))
theorem OneStep.flen (h : OneStep P all o fr hp fr' hp' s) : fr'.n = fr.n := by
  rcases h with ⟨_, r, _, rfl, _⟩ | ⟨_, rfl, _⟩ <;> exact putT_len _ _
theorem OneStep.mono (h : OneStep P all o fr hp fr' hp' s) : hp.length ≤ hp'.length := by
  rcases h with ⟨_, r, hr, _, rfl, _⟩ | ⟨_, _, rfl, _⟩
  · exact hr.1.len
  · exact Nat.le_refl _
theorem OneStep.tmp (h : OneStep P all o fr hp fr' hp' s) {t : Nat} (ht : o.dst ≠ some t) : fr'.get t = fr.get t := by
  rcases h with ⟨_, r, _, rfl, _⟩ | ⟨_, rfl, _⟩ <;> exact putT_ne ht
theorem OneStep.blk (h : OneStep P all o fr hp fr' hp' s) {id : Nat} (hi : hits s id = false) : hp'.getD id .dead = hp.getD id .dead := by
  rcases h with ⟨_, r, hr, _, rfl, rfl⟩ | ⟨_, _, rfl, _⟩
  · simp only [hits, Bool.or_eq_false_iff, Bool.and_eq_false_iff, decide_eq_false_iff_not] at hi
    obtain ⟨h1, h2⟩ := hi
    have h1' : ¬ id ∈ r.wr := by simpa using h1
    rcases Nat.lt_or_ge id hp.length with c | c
    · exact hr.1.keep id c h1'
    · rcases h2 with h2 | h2
      · exact absurd c h2
      · rw [getD_out c, getD_out (by omega)]
  · rfl
theorem busy_mem : ∀ (n : Nat) (st : List Step) (i : Nat) (s : Step), st[i]? = some s → idle s = false → (n + i, s) ∈ busy n st
  | _, [], i, s, h, _ => by simp at h
  | n, x :: r, i, s, h, hs => by
    unfold busy
    cases i with
    | zero =>
      simp only [List.getElem?_cons_zero, Option.some.injEq] at h
      subst h
      rw [hs, if_neg Bool.false_ne_true]
      exact List.mem_cons_self
    | succ i =>
      have := busy_mem (n + 1) r i s (by simpa using h) hs
      have e : n + 1 + i = n + (i + 1) := by omega
      rw [e] at this
      split
      · exact this
      · exact List.mem_cons_of_mem _ this
theorem idle_clash {s t : Step} (h : idle s = true ∨ idle t = true) : clash s t = false := by
  have key : ∀ {s t : Step}, idle s = true → clash s t = false := by
    intro s t h
    unfold idle at h
    simp only [Bool.and_eq_true, List.isEmpty_iff, decide_eq_true_eq] at h
    have hh : ∀ b, hits s b = false := fun b => by
      unfold hits
      rw [h.1.2]
      simp only [List.contains_nil, Bool.false_or, Bool.and_eq_false_iff, decide_eq_false_iff_not]
      omega
    unfold clash
    rw [h.1.1, h.1.2]
    simp [hh]
  rcases h with h | h
  · exact key h
  · have := key (t := s) h
    unfold clash at this ⊢
    simp only [Bool.or_eq_false_iff] at this ⊢
    exact ⟨⟨⟨this.1.2, this.2⟩, this.1.1.1⟩, this.1.1.2⟩
theorem calm_spec {ops : Array Oper} {st : List Step} (hS : calmS ops = true) (h : calm ops st = true) :
    (∀ (j : Nat) (o : Oper) (e : Edge), ops[j]? = some o → e ∈ o.after.toList → Region.binds .any e = true → e.on < j) ∧
    ∀ i j, i < j → j < ops.size → ((Region.before ops).getD j 0).testBit i = true ∨
      (clash (st.getD i ⟨[], [], 0, 0⟩) (st.getD j ⟨[], [], 0, 0⟩) = false ∧ Oper.apart ops (ops.getD i default) (ops.getD j default) = true) := by
  unfold calmS at hS
  have h' := List.all_eq_true.1 hS
  refine ⟨fun j o e ho he hb => ?_, fun i j hij hj => ?_⟩
  · have hj : j < ops.size := by
      rcases Nat.lt_or_ge j ops.size with c | c
      · exact c
      · rw [Array.getElem?_eq_none c] at ho; cases ho
    have hk := h' j (List.mem_range.2 hj)
    rw [Bool.and_eq_true] at hk
    have hd : ops.getD j default = o := by rw [Array.getD_eq_getD_getElem?, ho]; rfl
    rw [hd] at hk
    have := List.all_eq_true.1 hk.1 e he
    rw [hb] at this
    simpa using this
  · have hk := h' j (List.mem_range.2 hj)
    rw [Bool.and_eq_true] at hk
    have hq := List.all_eq_true.1 hk.2 i (List.mem_range.2 hij)
    rw [Bool.or_eq_true] at hq
    rcases hq with hq | h2
    · exact .inl hq
    · cases hc : clash (st.getD i ⟨[], [], 0, 0⟩) (st.getD j ⟨[], [], 0, 0⟩) with
      | false => exact .inr ⟨rfl, h2⟩
      | true =>
        have nd : idle (st.getD i ⟨[], [], 0, 0⟩) = false ∧ idle (st.getD j ⟨[], [], 0, 0⟩) = false := by
          constructor <;> rw [Bool.eq_false_iff] <;> intro c
          · rw [idle_clash (.inl c)] at hc; cases hc
          · rw [idle_clash (.inr c)] at hc; cases hc
        have get : ∀ k, idle (st.getD k ⟨[], [], 0, 0⟩) = false → (k, st.getD k ⟨[], [], 0, 0⟩) ∈ busy 0 st := fun k hk => by
          have := busy_mem 0 st k (st.getD k ⟨[], [], 0, 0⟩) (by
            rw [List.getD_eq_getElem?_getD] at hk ⊢
            cases hv : st[k]? with
            | none => rw [hv] at hk; simp [idle] at hk
            | some s => rfl) hk
          rwa [Nat.zero_add] at this
        unfold calm at h
        have h1 := List.all_eq_true.1 (List.all_eq_true.1 h _ (get j nd.2)) _ (get i nd.1)
        simp only [hc, hij, decide_true, Bool.not_true, Bool.false_or] at h1
        exact .inl h1
end
end Go.Proofs.Ytbolppjlaipfjaa.Ex
namespace Go.Proofs.Ytbolppjlaipfjaa.Ex
open Go
set_option linter.unusedVariables false
set_option linter.unusedSimpArgs false
theorem ready_spec {ops : Array Oper} {listed : Array Bool} {i : Nat} : i ∈ Region.ready .any ops listed ↔
    i < ops.size ∧ listed.getD i true = false ∧ ∃ o, ops[i]? = some o ∧ ∀ e, e ∈ o.after.toList → Region.binds .any e = true → listed.getD e.on false = true := by
  unfold Region.ready
  rw [List.mem_filter, List.mem_range]
  constructor
  · rintro ⟨h1, h2⟩
    rw [Bool.and_eq_true] at h2
    refine ⟨h1, by simpa using h2.1, ops[i], by simp [h1], fun e he hb => ?_⟩
    have h3 := h2.2
    rw [Array.getElem?_eq_getElem h1] at h3
    simp only [Option.map_some, Option.getD_some] at h3
    have := Array.all_eq_true'.1 h3 e (by simpa using he)
    simpa [hb] using this
  · rintro ⟨h1, h2, o, h3, h4⟩
    refine ⟨h1, ?_⟩
    rw [h2, h3]
    simp only [Option.map_some, Option.getD_some, Bool.not_false, Bool.true_and]
    refine Array.all_eq_true'.2 fun e he => ?_
    cases hb : Region.binds .any e with
    | false => rfl
    | true => rw [h4 e (by simpa using he) hb]; rfl
theorem ready_nil {ops : Array Oper} {listed : Array Bool} (hl : listed.size = ops.size) (he : ∀ (j : Nat) (o : Oper) (e : Edge), ops[j]? = some o → e ∈ o.after.toList → Region.binds .any e = true → e.on < j) (h : Region.ready .any ops listed = []) :
    ∀ k, k < ops.size → listed.getD k true = true := by
  intro k
  induction k using Nat.strongRecOn with
  | _ k ih =>
    intro hk
    cases hv : listed.getD k true with
    | true => rfl
    | false =>
      have : k ∈ Region.ready .any ops listed := ready_spec.2 ⟨hk, hv, ops[k], by simp [hk], fun e hm hb => by
        have hlt := he k ops[k] e (by simp [hk]) hm hb
        have := ih e.on hlt (by omega)
        rw [Array.getD_eq_getD_getElem?, Array.getElem?_eq_getElem (by omega)] at this ⊢
        exact this⟩
      rw [h] at this
      cases this
end Go.Proofs.Ytbolppjlaipfjaa.Ex
namespace Go.Proofs.Ytbolppjlaipfjaa.Ex
open Go
set_option linter.unusedVariables false
set_option linter.unusedSimpArgs false
section
variable {P : Program}
/-- The setting: the run in the order of the text, what is calm, and a done-set with one more operation. -/
structure Next (P : Program) (ops : Array Oper) (f : Nat → Fr) (h : Nat → Hp) (s : Nat → Step) (S : Nat → Bool) (i : Nat) (o : Oper) (r : Res) : Prop where
  lt : i < ops.size
  op : ops[i]? = some o
  notyet : S i = false
  before : ∀ k, k < i → S k = false → clash (s k) (s i) = false ∧ Oper.apart ops (ops.getD k default) o = true
  after : ∀ k, i < k → k < ops.size → S k = true → clash (s i) (s k) = false ∧ Oper.apart ops o (ops.getD k default) = true
  mono : ∀ j k, j ≤ k → k ≤ ops.size → (h j).length ≤ (h k).length
  rng : ∀ k, k < ops.size → (s k).lo = (h k).length ∧ (s k).hi = (h (k + 1)).length
  tmpk : ∀ t k, k < ops.size → touchT ops t k = false → (f (k + 1)).get t = (f k).get t
  blkk : ∀ id k, k < ops.size → touchB s id k = false → (h (k + 1)).getD id .dead = (h k).getD id .dead
  flen : (f i).n = (f 0).n
  fr : f (i + 1) = putT (f i) o.dst r.v
  hp : h (i + 1) = r.hp
  wr : (s i).wr = r.wr
  shape : Shape (s i).rd (h i) r
variable {ops : Array Oper} {f : Nat → Fr} {h : Nat → Hp} {s : Nat → Step} {S : Nat → Bool} {i : Nat} {o : Oper} {r : Res}
theorem clash_rd {s t : Step} (h : clash s t = false) {b : Nat} : (b ∈ t.rd → hits s b = false) ∧ (b ∈ t.wr → hits s b = false) ∧ (b ∈ s.rd → hits t b = false) ∧ (b ∈ s.wr → hits t b = false) := by
  unfold clash at h
  simp only [Bool.or_eq_false_iff] at h
  obtain ⟨⟨⟨h1, h2⟩, h3⟩, h4⟩ := h
  exact ⟨fun hb => by simpa using List.any_eq_false.1 h1 b hb, fun hb => by simpa using List.any_eq_false.1 h2 b hb, fun hb => by simpa using List.any_eq_false.1 h3 b hb, fun hb => by simpa using List.any_eq_false.1 h4 b hb⟩
theorem Next.tmp (N : Next P ops f h s S i o r) {t : Nat} (ht : t ∈ o.looksAt ops) : (curT ops f S t).1 ≤ i ∧ (curT ops f S t).2 = (f i).get t := by
  have hd : ∀ k, touchT ops t k = true → (ops.getD k default).dst = some t := fun k hk => by
    unfold touchT at hk
    cases hx : ops[k]? with
    | none => rw [hx] at hk; simp at hk
    | some x =>
      rw [hx] at hk
      rw [Array.getD_eq_getD_getElem?, hx]
      cases hy : x.dst with
      | none => simp [hy] at hk
      | some d => simp [hy] at hk; subst hk; exact hy
  refine cur_at (g := fun k => (f k).get t) (fun k hk hT => N.tmpk t k hk hT) (Nat.le_of_lt N.lt) (fun k hk hT => ?_) fun k hk hkn hT => ?_
  · cases hS : S k with
    | true => rfl
    | false => exact absurd ht ((Oper.apart_spec (N.before k hk hS).2).1 t (hd k hT))
  · cases hS : S k with
    | false => rfl
    | true =>
      by_cases e : k = i
      · rw [e, N.notyet] at hS; cases hS
      · exact absurd ht ((Oper.apart_spec (N.after k (by omega) hkn hS).2).2.2 t (hd k hT))
theorem Next.blk (N : Next P ops f h s S i o r) {b : Nat} (hb : b ∈ (s i).rd) : (curB ops h s S b).1 ≤ i ∧ (curB ops h s S b).2 = (h i).getD b .dead := by
  refine cur_at (g := fun k => (h k).getD b .dead) (fun k hk hT => N.blkk b k hk hT) (Nat.le_of_lt N.lt) (fun k hk hT => ?_) fun k hk hkn hT => ?_
  · cases hS : S k with
    | true => rfl
    | false =>
      have := (clash_rd (N.before k hk hS).1).1 hb
      unfold touchB at hT
      rw [this] at hT; cases hT
  · cases hS : S k with
    | false => rfl
    | true =>
      by_cases e : k = i
      · rw [e, N.notyet] at hS; cases hS
      · have := (clash_rd (N.after k (by omega) hkn hS).1 (b := b)).2.2.1 hb
        unfold touchB at hT
        rw [this] at hT; cases hT
def more (S : Nat → Bool) (i : Nat) : Nat → Bool := fun k => S k || k == i
theorem more_ne {k : Nat} (h : k ≠ i) : more S i k = S k := by simp [more, h]
theorem Next.touchT_i (N : Next P ops f h s S i o r) {t : Nat} : touchT ops t i = true ↔ o.dst = some t := by
  unfold touchT
  rw [N.op]
  cases hd : o.dst with
  | none => simp [hd]
  | some d => simp [hd]
theorem Next.tmp_other (N : Next P ops f h s S i o r) {t : Nat} (ht : o.dst ≠ some t) : curT ops f (more S i) t = curT ops f S t :=
  cur_other (i := i) (fun k hk => more_ne hk) (by
    cases hx : touchT ops t i with
    | false => rfl
    | true => exact absurd (N.touchT_i.1 hx) ht) _
theorem Next.tmp_done (N : Next P ops f h s S i o r) {t : Nat} (ht : o.dst = some t) : curT ops f (more S i) t = (i + 1, (f (i + 1)).get t) := by
  refine cur_done (g := fun k => (f k).get t) (S := S) N.lt (by simp [more]) (N.touchT_i.2 ht) fun k hk hkn hT => ?_
  rw [more_ne (by omega)]
  cases hS : S k with
  | false => rfl
  | true =>
    have := (Oper.apart_spec (N.after k hk hkn hS).2).2.1 t ht
    unfold touchT at hT
    cases hx : ops[k]? with
    | none => rw [hx] at hT; simp at hT
    | some x =>
      rw [hx] at hT
      rw [Array.getD_eq_getD_getElem?, hx] at this
      cases hy : x.dst with
      | none => simp [hy] at hT
      | some d => simp [hy] at hT; subst hT; exact absurd hy this
theorem Next.blk_other (N : Next P ops f h s S i o r) {b : Nat} (hb : hits (s i) b = false) : curB ops h s (more S i) b = curB ops h s S b :=
  cur_other (i := i) (fun k hk => more_ne hk) hb _
theorem Next.blk_done (N : Next P ops f h s S i o r) {b : Nat} (hb : hits (s i) b = true) : curB ops h s (more S i) b = (i + 1, (h (i + 1)).getD b .dead) := by
  refine cur_done (g := fun k => (h k).getD b .dead) (S := S) N.lt (by simp [more]) hb fun k hk hkn hT => ?_
  rw [more_ne (by omega)]
  cases hS : S k with
  | false => rfl
  | true =>
    have hc := clash_rd (N.after k hk hkn hS).1 (b := b)
    unfold touchB at hT
    have hb' := hb
    unfold hits at hb hT
    simp only [Bool.or_eq_true, Bool.and_eq_true, decide_eq_true_eq] at hb hT
    rcases hb with hb | hb
    · have := hc.2.2.2 (by simpa using hb)
      unfold hits at this
      simp only [Bool.or_eq_false_iff, Bool.and_eq_false_iff, decide_eq_false_iff_not] at this
      rcases hT with hT | hT
      · rw [hT] at this; cases this.1
      · rcases this.2 with q | q
        · exact absurd hT.1 q
        · exact absurd hT.2 q
    · rcases hT with hT | hT
      · have := hc.2.1 (by simpa using hT)
        rw [hb'] at this; cases this
      · have h1 := (N.rng i N.lt).2
        have h2 := (N.rng k hkn).1
        have h3 := N.mono (i + 1) k hk (Nat.le_of_lt hkn)
        omega
end
end Go.Proofs.Ytbolppjlaipfjaa.Ex
namespace Go.Proofs.Ytbolppjlaipfjaa.Ex
open Go
set_option linter.unusedVariables false
set_option linter.unusedSimpArgs false
section
variable {P : Program} {ops : Array Oper} {f : Nat → Fr} {h : Nat → Hp} {s : Nat → Step} {S : Nat → Bool} {i : Nat} {o : Oper} {r : Res} {w0 : World} {ν0 ν : Nu} {m : Nat} {wx : List Nat} {tmps : Array Value} {w : World}
theorem Next.seen (N : Next P ops f h s S i o r) (st : Stand P ops f h s w0 ν0 m wx S ν tmps w) : Seen ops (below ν (h i).length) (f i) tmps o := fun d v hd hv => by
  obtain ⟨h1, h2⟩ := N.tmp hd
  obtain ⟨v', h3, h4⟩ := st.tmp d v (h2.trans hv)
  exact ⟨v', h3, h4.le (below_mono (N.mono _ _ h1 (Nat.le_of_lt N.lt)))⟩
theorem Next.pre (N : Next P ops f h s S i o r) (st : Stand P ops f h s w0 ν0 m wx S ν tmps w) : Pre P (s i).rd (below ν (h i).length) (h i) w := by
  refine ⟨fun id hid => below_out hid, fun id hid => ?_, fun a b A B hab ha hb hoa hlb hA hB => ?_⟩
  · obtain ⟨h1, h2⟩ := N.blk hid
    have := st.blk id
    rw [h2] at this
    exact this.up (below_mono (N.mono _ _ h1 (Nat.le_of_lt N.lt)))
  · rw [← (N.blk ha).2] at hoa
    rw [← (N.blk hb).2] at hlb
    exact st.sep a b A B hab hoa hlb (below_le _ _ hA) (below_le _ _ hB)
end
end Go.Proofs.Ytbolppjlaipfjaa.Ex
namespace Go.Proofs.Ytbolppjlaipfjaa.Ex
open Go
set_option linter.unusedVariables false
set_option linter.unusedSimpArgs false
section
variable {P : Program} {ops : Array Oper} {f : Nat → Fr} {h : Nat → Hp} {s : Nat → Step} {S : Nat → Bool} {i : Nat} {o : Oper} {r : Res} {w0 : World} {ν0 ν : Nu} {m : Nat} {wx : List Nat} {a : Act} {w : World}
def joined (ν ν1 : Nu) (l k : Nat) : Nu := fun id => if l ≤ id ∧ id < k then ν1 id else ν id
theorem Stand.step (N : Next P ops f h s S i o r) (st : Stand P ops f h s w0 ν0 m wx S ν a.tmps w) {ν1 : Nu} {v' : Value} {w' : World}
    (p : Post P (s i).rd (below ν (h i).length) (h i) w r ν1 w') (hv : VR ν1 r.v v') : Stand P ops f h s w0 ν0 m wx (more S i) (joined ν ν1 (h i).length (h (i + 1)).length) (a.put o.dst v').tmps w' := by
  have hLL : (h i).length ≤ (h (i + 1)).length := N.mono i (i + 1) (by omega) N.lt
  have h0L : (h 0).length ≤ (h i).length := N.mono 0 i (by omega) (Nat.le_of_lt N.lt)
  have jin : ∀ id, (h i).length ≤ id → id < (h (i + 1)).length → joined ν ν1 (h i).length (h (i + 1)).length id = ν1 id := fun id h1 h2 => if_pos ⟨h1, h2⟩
  have jout : ∀ id, ¬ ((h i).length ≤ id ∧ id < (h (i + 1)).length) → joined ν ν1 (h i).length (h (i + 1)).length id = ν id := fun id h1 => if_neg h1
  have e1 : below (joined ν ν1 (h i).length (h (i + 1)).length) (h (i + 1)).length = ν1 := by
    funext id
    rcases Nat.lt_or_ge id (h (i + 1)).length with c | c
    · rw [below_in c]
      rcases Nat.lt_or_ge id (h i).length with d | d
      · rw [jout id (by omega), p.same id d, below_in d]
      · exact jin id d c
    · rw [below_out c, p.dom id (by rw [← N.hp]; exact c)]
  have le : Le ν (joined ν ν1 (h i).length (h (i + 1)).length) := fun id M hM => by
    by_cases c : (h i).length ≤ id ∧ id < (h (i + 1)).length
    · rw [st.made i id N.lt N.notyet c.1 c.2] at hM; cases hM
    · rw [jout id c]; exact hM
  have leb : ∀ n, Le (below ν n) (below (joined ν ν1 (h i).length (h (i + 1)).length) n) := fun n id M hM => by
    unfold below at hM ⊢
    split at hM
    · rw [if_pos (by assumption)]; exact le id M hM
    · cases hM
  have hitq : ∀ id, hits (s i) id = true ↔ (id ∈ r.wr ∨ ((h i).length ≤ id ∧ id < (h (i + 1)).length)) := fun id => by
    unfold hits
    rw [N.wr, (N.rng i N.lt).1, (N.rng i N.lt).2]
    simp
  have hitn : ∀ id, hits (s i) id = false → ¬ id ∈ r.wr ∧ ¬ ((h i).length ≤ id ∧ id < (h (i + 1)).length) := fun id hid => by
    refine ⟨fun c => ?_, fun c => ?_⟩
    · rw [(hitq id).2 (.inl c)] at hid; cases hid
    · rw [(hitq id).2 (.inr c)] at hid; cases hid
  -- a written block, before
  have wown : ∀ j, j ∈ r.wr → (curB ops h s S j).2.isOwn = true ∧ j < (h i).length := fun j hj => by
    have hjF := (N.shape.wr j hj)
    rw [(N.blk hjF.1).2]
    exact ⟨N.shape.own j hj, hjF.2⟩
  have lt : ∀ id M, (curB ops h s S id).2.live = true → ν id = some M → below ν (h (curB ops h s S id).1).length id = some M → M.g < w.heap.size := fun id M hl _ hM => (st.blk id).lt hl hM
  have named : ∀ id M, (curB ops h s S id).2.live = true → ν id = some M → M.g < w.heap.size := fun id M hl hM => by
    have hb := st.blk id
    have : ∃ K, below ν (h (curB ops h s S id).1).length id = some K := by
      cases hk : (curB ops h s S id).2 with
      | dead => rw [hk] at hl; cases hl
      | own e cs => rw [hk] at hb; obtain ⟨g, cur, lo, hi, q, _⟩ := hb; exact ⟨_, q⟩
      | ro e cs => rw [hk] at hb; obtain ⟨K, q, _⟩ := hb; exact ⟨_, q⟩
    obtain ⟨K, hK⟩ := this
    have := below_le _ _ hK
    rw [hM] at this
    cases this
    exact hb.lt hl hK
  have bdone : ∀ id, hits (s i) id = true → (curB ops h s (more S i) id) = (i + 1, r.hp.getD id .dead) := fun id hid => by rw [N.blk_done hid, N.hp]
  have hitF : ∀ id, hits (s i) id = true → id ∈ (s i).rd ∨ (h i).length ≤ id := fun id hid => ((hitq id).1 hid).imp (fun c => (N.shape.wr id c).1) (fun c => c.1)
  have jhit : ∀ id, hits (s i) id = true → joined ν ν1 (h i).length (h (i + 1)).length id = ν1 id := fun id hid => by
    rcases (hitq id).1 hid with c | c
    · have := (wown id c).2
      rw [jout id (by omega), p.same id this, below_in this]
    · exact jin id c.1 c.2
  have cross : ∀ x y M K, hits (s i) x = true → hits (s i) y = false → (r.hp.getD x .dead).live = true → (curB ops h s S y).2.live = true → ν1 x = some M → ν y = some K → M.g ≠ K.g := fun x y M K hx hy hxl hyl hM hK => by
    rcases (hitq x).1 hx with c | c
    · have hw := wown x c
      rw [p.same x hw.2, below_in hw.2] at hM
      exact st.sep x y M K (fun e => (hitn y hy).1 (e ▸ c)) hw.1 hyl hM hK
    · rcases p.fresh x M c.1 hxl hM with q | ⟨j, J, q1, q2, q3⟩
      · have := named y K hyl hK
        omega
      · rw [← q3]
        exact st.sep j y J K (fun e => (hitn y hy).1 (e ▸ q1)) (wown j q1).1 hyl (below_le _ _ q2) hK
  refine ⟨by cases hd : o.dst <;> simp [Act.put, st.tlen], fun t v ht => ?_, fun id => ?_, fun id hid => ?_, fun k id hk hSk h1 h2 => ?_, fun x y M K hxy hox hly hM hK => ?_, st.len, fun id hid => ?_, p.os.trans st.os, p.tape.trans st.tape, p.output.trans st.output, Nat.le_trans st.size p.size, fun g hg hfr => ?_, fun id M hid hl hM => ?_⟩
  · by_cases hd : o.dst = some t
    · rw [N.tmp_done hd] at ht ⊢
      simp only [N.fr, hd, putT] at ht
      obtain ⟨hlt, ht⟩ := Fr.get_set _ ht
      cases ht
      refine ⟨v', ?_, by rw [e1]; exact hv⟩
      have : t < a.tmps.size := by rw [← st.tlen, ← N.flen]; exact hlt
      simp [Act.put, hd, this]
    · rw [N.tmp_other hd] at ht ⊢
      obtain ⟨u', h1, h2⟩ := st.tmp t v ht
      refine ⟨u', ?_, h2.le (leb _)⟩
      cases hx : o.dst with
      | none => exact h1
      | some d =>
        have hne : d ≠ t := fun e => hd (by rw [hx, e])
        simp only [Act.put]
        rw [Array.getElem?_setIfInBounds_ne hne]
        exact h1
  · cases hh : hits (s i) id with
    | true =>
      rw [bdone id hh, e1]
      exact p.blk id (hitF id hh)
    | false =>
      rw [N.blk_other hh]
      refine (st.blk id).le (leb _) (fun M hM hl => p.frame M.g ((st.blk id).lt hl hM) fun j J hj hJ => ?_) p.size
      exact st.sep j id J M (fun e => (hitn id hh).1 (e ▸ hj)) (wown j hj).1 hl (below_le _ _ hJ) (below_le _ _ hM)
  · have := N.mono (i + 1) ops.size N.lt (Nat.le_refl _)
    rw [jout id (by omega)]
    exact st.over id hid
  · have hki : k ≠ i := fun e => by rw [e] at hSk; simp [more] at hSk
    rw [more_ne hki] at hSk
    rw [jout id (fun c => by
      rcases Nat.lt_or_ge k i with d | d
      · have := N.mono (k + 1) i d (Nat.le_of_lt N.lt); omega
      · have := N.mono (i + 1) k (by omega) (Nat.le_of_lt hk); omega)]
    exact st.made k id hk hSk h1 h2
  · cases hx : hits (s i) x with
    | true =>
      rw [jhit x hx] at hM
      rw [bdone x hx] at hox
      cases hy : hits (s i) y with
      | true =>
        rw [jhit y hy] at hK
        rw [bdone y hy] at hly
        exact p.sep x y M K hxy (hitF x hx) (hitF y hy) hox hly hM hK
      | false =>
        rw [N.blk_other hy] at hly
        rw [jout y (hitn y hy).2] at hK
        exact cross x y M K hx hy (own_live hox) hly hM hK
    | false =>
      rw [N.blk_other hx] at hox
      rw [jout x (hitn x hx).2] at hM
      cases hy : hits (s i) y with
      | true =>
        rw [jhit y hy] at hK
        rw [bdone y hy] at hly
        exact fun e => cross y x K M hy hx hly (own_live hox) hK hM e.symm
      | false =>
        rw [N.blk_other hy] at hly
        rw [jout y (hitn y hy).2] at hK
        exact st.sep x y M K hxy hox hly hM hK
  · have := st.len
    rw [jout id (by omega)]
    exact st.same id hid
  · have up : ∀ j, (j ∈ wx ∨ ∃ k, k < ops.size ∧ S k = true ∧ j ∈ (s k).wr) → (j ∈ wx ∨ ∃ k, k < ops.size ∧ more S i k = true ∧ j ∈ (s k).wr) := fun j hj => hj.imp (fun x => x) fun ⟨k, k1, k2, k3⟩ => ⟨k, k1, by simp [more, k2], k3⟩
    have h1 := st.frame g hg fun id M hid hw hM => hfr id M hid (up id hw) hM
    rw [← h1]
    refine p.frame g (Nat.lt_of_lt_of_le hg st.size) fun j J hj hJ => ?_
    have hJ' := below_le _ _ hJ
    rcases Nat.lt_or_ge j m with c | c
    · rw [st.same j c] at hJ'
      exact hfr j J c (.inr ⟨i, N.lt, by simp [more], by rw [N.wr]; exact hj⟩) hJ'
    · rcases st.fresh j J c (own_live (wown j hj).1) hJ' with q | ⟨k, K, q1, q2, q3, q4⟩
      · omega
      · rw [← q4]
        exact hfr k K q1 (up k q2) q3
  · have up : ∀ j, (j ∈ wx ∨ ∃ k, k < ops.size ∧ S k = true ∧ j ∈ (s k).wr) → (j ∈ wx ∨ ∃ k, k < ops.size ∧ more S i k = true ∧ j ∈ (s k).wr) := fun j hj => hj.imp (fun x => x) fun ⟨k, k1, k2, k3⟩ => ⟨k, k1, by simp [more, k2], k3⟩
    have old : ∀ id M, m ≤ id → (curB ops h s S id).2.live = true → ν id = some M → w0.heap.size ≤ M.g ∨ ∃ j K, j < m ∧ (j ∈ wx ∨ ∃ k, k < ops.size ∧ more S i k = true ∧ j ∈ (s k).wr) ∧ ν0 j = some K ∧ K.g = M.g := fun id M hid hl hM =>
      (st.fresh id M hid hl hM).imp (fun x => x) fun ⟨j, K, q1, q2, q3⟩ => ⟨j, K, q1, up j q2, q3⟩
    cases hh : hits (s i) id with
    | false =>
      rw [N.blk_other hh] at hl
      rw [jout id (hitn id hh).2] at hM
      exact old id M hid hl hM
    | true =>
      rw [jhit id hh] at hM
      rw [bdone id hh] at hl
      rcases (hitq id).1 hh with c | c
      · have hw := wown id c
        rw [p.same id hw.2, below_in hw.2] at hM
        exact old id M hid (own_live hw.1) hM
      · rcases p.fresh id M c.1 hl hM with q | ⟨j, J, q1, q2, q3⟩
        · exact .inl (Nat.le_trans st.size q)
        · have hJ' := below_le _ _ q2
          rcases Nat.lt_or_ge j m with d | d
          · rw [st.same j d] at hJ'
            exact .inr ⟨j, J, d, .inr ⟨i, N.lt, by simp [more], by rw [N.wr]; exact q1⟩, hJ', q3⟩
          · rw [← q3]
            exact old j J d (own_live (wown j q1).1) hJ'
end
end Go.Proofs.Ytbolppjlaipfjaa.Ex
namespace Go.Proofs.Ytbolppjlaipfjaa.Ex
open Go
set_option linter.unusedVariables false
set_option linter.unusedSimpArgs false
section
variable {P : Program} {ops : Array Oper}
theorem more_set {listed : Array Bool} {i : Nat} (hi : i < listed.size) : (fun k => (listed.setIfInBounds i true).getD k false) = more (fun k => listed.getD k false) i := by
  funext k
  show (listed.setIfInBounds i true).getD k false = (listed.getD k false || k == i)
  rw [Array.getD_eq_getD_getElem?, Array.getD_eq_getD_getElem?, Array.getElem?_setIfInBounds]
  by_cases c : i = k
  · subst c; simp [hi]
  · rw [if_neg c]
    have : (k == i) = false := by simpa using fun e => c e.symm
    simp [this]
/-- The run in the order of the text, and what is calm. -/
structure Text (P : Program) (ops : Array Oper) (f : Nat → Fr) (h : Nat → Hp) (s : Nat → Step) : Prop where
  one : ∀ (k : Nat) (o : Oper), ops[k]? = some o → OneStep P ops o (f k) (h k) (f (k + 1)) (h (k + 1)) (s k)
  back : ∀ (j : Nat) (o : Oper) (e : Edge), ops[j]? = some o → e ∈ o.after.toList → Region.binds .any e = true → e.on < j
  calm : ∀ i j, i < j → j < ops.size → ((Region.before ops).getD j 0).testBit i = true ∨ (clash (s i) (s j) = false ∧ Oper.apart ops (ops.getD i default) (ops.getD j default) = true)
variable {f : Nat → Fr} {h : Nat → Hp} {s : Nat → Step}
theorem Text.at (T : Text P ops f h s) {k : Nat} (hk : k < ops.size) : OneStep P ops (ops.getD k default) (f k) (h k) (f (k + 1)) (h (k + 1)) (s k) :=
  T.one k _ (by rw [Array.getD_eq_getD_getElem?, Array.getElem?_eq_getElem hk]; rfl)
theorem Text.mono (T : Text P ops f h s) : ∀ j k, j ≤ k → k ≤ ops.size → (h j).length ≤ (h k).length
  | j, 0, hj, _ => by obtain rfl : j = 0 := by omega
                      exact Nat.le_refl _
  | j, k + 1, hj, hk => by
    by_cases c : j = k + 1
    · rw [c]; exact Nat.le_refl _
    · exact Nat.le_trans (T.mono j k (by omega) (by omega)) (T.at (by omega)).mono
theorem Text.flen (T : Text P ops f h s) : ∀ k, k ≤ ops.size → (f k).n = (f 0).n
  | 0, _ => rfl
  | k + 1, hk => (T.at (by omega)).flen.trans (T.flen k (by omega))
theorem OneStep.rng {o : Oper} {fr fr' : Fr} {hp hp' : Hp} {st : Step} {all : Array Oper} (q : OneStep P all o fr hp fr' hp' st) : st.lo = hp.length ∧ st.hi = hp'.length := by
  rcases q with ⟨_, r, _, _, rfl, rfl⟩ | ⟨_, _, rfl, rfl⟩ <;> exact ⟨rfl, rfl⟩
theorem touchT_not {t k : Nat} (hk : k < ops.size) (h : touchT ops t k = false) : (ops.getD k default).dst ≠ some t := by
  intro e
  unfold touchT at h
  rw [Array.getD_eq_getD_getElem?, Array.getElem?_eq_getElem hk] at e
  rw [Array.getElem?_eq_getElem hk] at h
  simp only [Option.getD_some] at e
  simp [e] at h
theorem Text.next (T : Text P ops f h s) {S : Nat → Bool} {i : Nat} {o : Oper} {r : Res} (hi : i < ops.size) (ho : ops[i]? = some o) (hS : S i = false)
    (hcl : ∀ j k, j < ops.size → S j = true → ((Region.before ops).getD j 0).testBit k = true → S k = true) (hrd : ∀ k, ((Region.before ops).getD i 0).testBit k = true → S k = true)
    (hfr : f (i + 1) = putT (f i) o.dst r.v) (hhp : h (i + 1) = r.hp) (hwr : (s i).wr = r.wr) (hsh : Shape (s i).rd (h i) r) : Next P ops f h s S i o r where
  lt := hi
  op := ho
  notyet := hS
  before := fun k hk hSk => by
    rcases T.calm k i hk hi with c | c
    · rw [hrd k c] at hSk; cases hSk
    · have : ops.getD i default = o := by rw [Array.getD_eq_getD_getElem?, ho]; rfl
      rw [this] at c
      exact c
  after := fun k hk hkn hSk => by
    rcases T.calm i k hk hkn with c | c
    · rw [hcl k i hkn hSk c] at hS; cases hS
    · have : ops.getD i default = o := by rw [Array.getD_eq_getD_getElem?, ho]; rfl
      rw [this] at c
      exact c
  mono := T.mono
  rng := fun k hk => (T.at hk).rng
  tmpk := fun t k hk ht => (T.at hk).tmp (touchT_not hk ht)
  blkk := fun id k hk hid => (T.at hk).blk hid
  flen := T.flen i (Nat.le_of_lt hi)
  fr := hfr
  hp := hhp
  wr := hwr
  shape := hsh
end
end Go.Proofs.Ytbolppjlaipfjaa.Ex
namespace Go.Proofs.Ytbolppjlaipfjaa.Ex
open Go
set_option linter.unusedVariables false
set_option linter.unusedSimpArgs false
section
variable {P : Program} {ops : Array Oper} {f : Nat → Fr} {h : Nat → Hp} {s : Nat → Step} {w0 : World} {ν0 : Nu} {m : Nat} {wx : List Nat}
def don (listed : Array Bool) : Nat → Bool := fun k => listed.getD k false
theorem Text.op (T : Text P ops f h s) {listed : Array Bool} {i : Nat} (hl : listed.size = ops.size) (hcl : ∀ (j : Nat) (o : Oper) (e : Edge), don listed j = true → ops[j]? = some o → e ∈ o.after.toList → Region.binds .any e = true → don listed e.on = true)
    (hi : i ∈ Region.ready .any ops listed) {ν : Nu} {a : Act} {w : World} (st : Stand P ops f h s w0 ν0 m wx (don listed) ν a.tmps w) {Q : Exit → Act → World → Prop} {K : Act → World → Prop}
    (hK : ∀ ν' a' w', Stand P ops f h s w0 ν0 m wx (don (listed.setIfInBounds i true)) ν' a'.tmps w' → a'.defers = a.defers → K a' w') : wpOp P ops Q i K a w := by
  obtain ⟨hin, hno, o, ho, hed⟩ := ready_spec.1 hi
  have hS : don listed i = false := by
    unfold don
    rw [Array.getD_eq_getD_getElem?, Array.getElem?_eq_getElem (by omega)] at hno ⊢
    exact hno
  have cl := before_closed (ops := ops) (S := fun k => don listed k = true) (fun j o e h1 h2 h3 h4 => hcl j o e h1 h2 h3 h4)
  have hrd : ∀ k, ((Region.before ops).getD i 0).testBit k = true → don listed k = true := fun k hb => by
    obtain ⟨o', e, q1, q2, q3, q4⟩ := before_edge hb
    rw [ho] at q1
    cases q1
    have he : don listed e.on = true := hed e q2 q3
    rcases q4 with rfl | ⟨_, q⟩
    · exact he
    · exact cl e.on k he q
  have hm : don (listed.setIfInBounds i true) = more (don listed) i := more_set (by omega)
  unfold wpOp
  rw [ho]
  dsimp only
  rcases T.one i o ho with ⟨hw, r, hr, e1, e2, e3⟩ | ⟨hw, e1, e2, e3⟩
  · have N : Next P ops f h s (don listed) i o r := T.next hin ho hS (fun j k _ h1 h2 => cl j k h1 h2) hrd e1 e2 (by rw [e3]) (by rw [e3]; exact hr.1)
    rw [if_pos (hw _ _ (N.seen st))]
    refine .inl (hr.2 _ a w (N.seen st).env (by have := N.pre st; rw [e3] at this; exact this) _ _ fun ν1 v' w' p hv => ?_)
    have q := Stand.step N st (by rw [e3]; exact p) hv
    rw [← hm] at q
    exact hK _ _ _ q put_defers
  · have N : Next P ops f h s (don listed) i o ⟨undef, h i, []⟩ := T.next hin ho hS (fun j k _ h1 h2 => cl j k h1 h2) hrd e1 e2 (by rw [e3]) (by rw [e3]; exact Shape.same _)
    rw [if_neg (by rw [hw _ _ (N.seen st)]; simp)]
    have q := Stand.step N st (v' := undef) (Post.refl_ (N.pre st) undef) ⟨#[], rfl, .nil⟩
    rw [← hm] at q
    exact hK _ _ _ q put_defers
end
end Go.Proofs.Ytbolppjlaipfjaa.Ex
namespace Go.Proofs.Ytbolppjlaipfjaa.Ex
open Go
set_option linter.unusedVariables false
set_option linter.unusedSimpArgs false
section
variable {P : Program} {ops : Array Oper} {f : Nat → Fr} {h : Nat → Hp} {s : Nat → Step} {w0 : World} {ν0 : Nu} {m : Nat} {wx : List Nat}
def rest (listed : Array Bool) : Nat := (listed.toList.filter fun b => !b).length
theorem rest_set : ∀ (l : List Bool) (i : Nat), l[i]? = some false → ((l.set i true).filter fun b => !b).length + 1 = (l.filter fun b => !b).length
  | [], i, h => by simp at h
  | x :: l, 0, h => by simp at h; subst h; simp
  | x :: l, i + 1, h => by
    have := rest_set l i (by simpa using h)
    cases x <;> simp at this ⊢ <;> omega
theorem Text.any (T : Text P ops f h s) {Q : Exit → Act → World → Prop} {d : List Deferred}
    (hQ : ∀ S ν (a : Act) w, (∀ k, k < ops.size → S k = true) → Stand P ops f h s w0 ν0 m wx S ν a.tmps w → a.defers = d → Q .normal a w) :
    ∀ (n : Nat) (listed : Array Bool) (ν : Nu) (a : Act) (w : World), rest listed = n → listed.size = ops.size →
      (∀ (j : Nat) (o : Oper) (e : Edge), don listed j = true → ops[j]? = some o → e ∈ o.after.toList → Region.binds .any e = true → don listed e.on = true) →
      Stand P ops f h s w0 ν0 m wx (don listed) ν a.tmps w → a.defers = d → wpAny P .any ops Q n listed a w := by
  have fin : ∀ (listed : Array Bool) (ν : Nu) (a : Act) (w : World), listed.size = ops.size → Stand P ops f h s w0 ν0 m wx (don listed) ν a.tmps w → a.defers = d → Region.ready .any ops listed = [] → Q .normal a w :=
    fun listed ν a w hl st hd hr => hQ _ ν a w (fun k hk => by
      have := ready_nil hl T.back hr k hk
      unfold don
      rw [Array.getD_eq_getD_getElem?, Array.getElem?_eq_getElem (by omega)] at this ⊢
      exact this) st hd
  intro n
  induction n with
  | zero =>
    intro listed ν a w hn hl hcl st hd
    have hr : Region.ready .any ops listed = [] := by
      cases hx : Region.ready .any ops listed with
      | nil => rfl
      | cons i r =>
        obtain ⟨h1, h2, _⟩ := ready_spec.1 (by rw [hx]; simp : i ∈ Region.ready .any ops listed)
        rw [Array.getD_eq_getD_getElem?, Array.getElem?_eq_getElem (by omega)] at h2
        have := rest_set listed.toList i (by rw [Array.getElem?_toList, Array.getElem?_eq_getElem (by omega)]; simpa using h2)
        unfold rest at hn
        omega
    exact ⟨hr, fin listed ν a w hl st hd hr⟩
  | succ n ih =>
    intro listed ν a w hn hl hcl st hd
    refine ⟨fin listed ν a w hl st hd, fun i hi => T.op hl hcl hi st fun ν' a' w' st' hd' => ih _ ν' a' w' ?_ (by simpa using hl) ?_ st' (hd'.trans hd)⟩
    · obtain ⟨h1, h2, _⟩ := ready_spec.1 hi
      rw [Array.getD_eq_getD_getElem?, Array.getElem?_eq_getElem (by omega)] at h2
      have := rest_set listed.toList i (by rw [Array.getElem?_toList, Array.getElem?_eq_getElem (by omega)]; simpa using h2)
      unfold rest at hn ⊢
      rw [Array.toList_setIfInBounds]
      omega
    · obtain ⟨h1, _, o, ho, hed⟩ := ready_spec.1 hi
      have hm : don (listed.setIfInBounds i true) = more (don listed) i := more_set (by omega)
      intro j o' e hj ho' he hb
      rw [hm] at hj ⊢
      unfold more at hj ⊢
      rw [Bool.or_eq_true] at hj ⊢
      rcases hj with hj | hj
      · exact .inl (hcl j o' e hj ho' he hb)
      · have : j = i := by simpa using hj
        subst this
        rw [ho] at ho'
        cases ho'
        exact .inl (hed e he hb)
theorem drawn_sat {call : CallF} (hN : Named P) (hm : P.follows .mixedOrders = true) (hcall : Sound P call) : Drawn P call := by
  intro id m ops fr hp hcs
  refine Sat.bind (seqs_sat hN hcall ops.toList fr hp [] []) fun r hr => Sat.bind_chk fun hc => Sat.ret _ ?_
  obtain ⟨f, h, s, e1, e2, e3, e4, e5, e6, e7⟩ := hr
  subst e1
  subst e2
  intro w0 ν0 ν wx a w Q hi hfr hQ
  rw [e7] at hc
  obtain ⟨hb, hcl⟩ := calm_spec hcs hc
  have hst : ∀ k, k < ops.size → (([] : List Step).reverse ++ (List.range ops.toList.length).map s).getD k ⟨[], [], 0, 0⟩ = s k := fun k hk => by
    simp [List.getD_eq_getElem?_getD, List.getElem?_range, hk]
  have T : Text P ops f h s := ⟨fun k o ho => e3 k o (by simpa using ho), hb, fun i j hij hj => by
    have := hcl i j hij hj
    rw [hst i (by omega), hst j hj] at this
    exact this⟩
  have hn : ops.toList.length = ops.size := by simp
  rw [hn] at e4 e5 e6
  have hi' : Inv P w0 ν0 m ν (h 0) wx { w with drawn := w.drawn + 1 } := ⟨⟨hi.rep.dom, fun id => (hi.rep.blk id).le (Le.refl _) (fun _ _ _ => rfl) (Nat.le_refl _), hi.rep.sep⟩, hi.len, hi.same, hi.os, hi.tape, hi.output, hi.size, hi.frame, hi.fresh⟩
  have hdon : don (Array.replicate ops.size false) = fun _ => false := by
    funext k
    unfold don
    rw [Array.getD_eq_getD_getElem?, Array.getElem?_replicate]
    split <;> rfl
  have hst0 := Stand.init (ops := ops) (s := s) (fun k hk => T.mono 0 k (Nat.zero_le _) hk) hi' hfr
  rw [← hdon] at hst0
  refine wp_region_any hm (T.any (m := m) (wx := wx) (w0 := w0) (ν0 := ν0) (d := a.defers) (fun S ν' a' w' hS st hd => ?_) ops.size (Array.replicate ops.size false) ν a _ ?_ (by simp) (fun j o e hj => by rw [hdon] at hj; cases hj) hst0 rfl)
  · obtain ⟨k1, k2⟩ := Stand.final (wr := r.2.2.1) (T.mono 0 ops.size (Nat.zero_le _) (Nat.le_refl _)) (T.flen ops.size (Nat.le_refl _)) hS (fun id => by rw [e6]; simp) (fun t k hk ht => (T.at hk).tmp (touchT_not hk ht)) (fun id k hk hid => (T.at hk).blk hid) st
    rw [e5] at k1
    rw [e4] at k2
    exact hQ ν' a' w' k1 k2 hd
  · unfold rest
    simp
end
end Go.Proofs.Ytbolppjlaipfjaa.Ex
namespace Go.Proofs.Ytbolppjlaipfjaa.Ex
open Go
theorem exec_ok {P : Program} (hN : Named P) (hC : Calm P) (hm : P.follows .mixedOrders = true) (n : Nat) (g : FuncId) (args : List Value) (hp : Hp) : Sat (exec P n g args hp) (CallSpec P g args hp) :=
  exec_sat hN hC (fun _ hS => drawn_sat hN hm hS) n g args hp
theorem run_ok {P : Program} (hN : Named P) (hC : Calm P) (hm : P.follows .mixedOrders = true) (k m n : Nat) (c : Code) (fr : Fr) (hp : Hp) (hc : calmC c = true) : Sat (run P (callA P (toldA P (exec P k))) m n c fr hp) (CodeSpec P m c fr hp) := by
  have told : ∀ g args hp, Sat (toldA P (exec P k) g args hp) (CallSpec P g args hp) := by
    intro g args hp o r he hg
    unfold toldA at he
    split at he
    · cases he
      exact hg.2 _ (by simp)
    · cases he
    · exact exec_ok hN hC hm k g args hp _ _ he hg
    · exact exec_ok hN hC hm k g args hp _ _ he hg
  have hS : Sound P (callA P (toldA P (exec P k))) := fun F g args hp hF => call_sat (fun args hp => told g args hp) hF
  exact run_sat hN hS (drawn_sat hN hm hS) c fr hp hc
theorem go_ok {α : Type} {x : M α} {R : α → Prop} (hx : Sat x R) {orc : Orcs} {a : α} {owe : List Prop} (h : go x orc = some (a, true, owe)) (ho : ∀ p, p ∈ owe → p) : R a := by
  unfold go at h
  cases hr : x orc with
  | none => rw [hr] at h; cases h
  | some r =>
    rw [hr] at h
    simp only [Option.bind_some] at h
    split at h
    · simp only [Option.some.injEq, Prod.mk.injEq] at h
      obtain ⟨h1, h2, h3⟩ := h
      subst h1
      exact hx orc r hr ⟨h2, fun p hp => ho p (by rw [← h3]; exact hp)⟩
    · cases h
end Go.Proofs.Ytbolppjlaipfjaa.Ex
namespace Go.Proofs.Ytbolppjlaipfjaa.Ex
open Go
set_option linter.unusedVariables false
section
variable {P : Program} {fr : Fr} {hp : Hp} {m : Nat} {c : Code}
theorem CodeSpec.tidy_out {keep : List Nat} {o o2 : Out} (hs : CodeSpec P m c fr hp o) (h : tidy P m keep o = some o2) : CodeSpec P m c fr hp o2 :=
  fun w0 ν0 ν wr a w Q hi hfr hQ => hs w0 ν0 ν wr a w Q hi hfr fun ν' a' w' k1 k2 k3 => by
    obtain ⟨e1, e2, h3⟩ := tidy_inv h
    obtain ⟨ν2, h1, h2⟩ := h3 k1 k2
    rw [← e1]
    refine hQ ν2 a' w' (h1.wrs fun j hj hm => ?_) h2 k3
    rw [e2]
    simp only [List.mem_append, List.mem_filter, decide_eq_true_eq] at hj ⊢
    exact hj.imp (fun h => ⟨h, hm⟩) id
theorem CodeSpec.wrs {e : Xt} {fr' : Fr} {hp' : Hp} {wr wr' : List Nat} (hs : CodeSpec P m c fr hp ⟨e, fr', hp', wr⟩) (h : ∀ j, j ∈ wr → j < m → j ∈ wr') : CodeSpec P m c fr hp ⟨e, fr', hp', wr'⟩ :=
  fun w0 ν0 ν wx a w Q hi hfr hQ => hs w0 ν0 ν wx a w Q hi hfr fun ν' a' w' k1 k2 k3 => hQ ν' a' w' (k1.wrs fun j hj hm => by
    simp only [List.mem_append] at hj ⊢
    exact hj.imp (fun hj => h j hj hm) id) k2 k3
def LoopSpec (P : Program) (m : Nat) (c : Code) (fr : Fr) (hp : Hp) (o : Out) : Prop :=
  ∃ n, ∀ w0 ν0 ν wr (a : Act) w (Q : Exit → Act → World → Prop), Inv P w0 ν0 m ν hp wr w → FrRel ν fr a.tmps →
    (∀ ν' (a' : Act) w', Inv P w0 ν0 m ν' o.hp (o.wr ++ wr) w' → FrRel ν' o.fr a'.tmps → a'.defers = a.defers → Q o.ex.of a' w') → Code.rounds P c Q n a w
theorem LoopSpec.code {o : Out} (h : LoopSpec P m c fr hp o) : CodeSpec P m (.loop c) fr hp o :=
  let ⟨n, h⟩ := h
  fun w0 ν0 ν wx a w Q hi hfr hQ => wp_loop_rounds n (h w0 ν0 ν wx a w Q hi hfr hQ)
theorem LoopSpec.more {o1 o : Out} (h1 : CodeSpec P m c fr hp o1) (he : o1.ex = .normal) (h2 : LoopSpec P m c o1.fr o1.hp o) (hw : ∀ j, j ∈ o1.wr → j < m → j ∈ o.wr) : LoopSpec P m c fr hp o := by
  obtain ⟨n, h2⟩ := h2
  refine ⟨n + 1, fun w0 ν0 ν wx a w Q hi hfr hQ => ?_⟩
  rw [rounds_succ]
  refine h1 w0 ν0 ν wx a w _ hi hfr fun ν' a' w' k1 k2 k3 => ?_
  rw [he]
  refine h2 w0 ν0 ν' (o1.wr ++ wx) a' w' Q k1 k2 fun ν2 a2 w2 q1 q2 q3 => hQ ν2 a2 w2 (q1.wrs fun j hj hm => ?_) q2 (q3.trans k3)
  simp only [List.mem_append] at hj ⊢
  rcases hj with h | h | h
  · exact .inl h
  · exact .inl (hw j h hm)
  · exact .inr h
theorem LoopSpec.last {o : Out} (h1 : CodeSpec P m c fr hp o) (he : o.ex ≠ .normal) : LoopSpec P m c fr hp o := by
  refine ⟨1, fun w0 ν0 ν wx a w Q hi hfr hQ => ?_⟩
  rw [rounds_succ]
  refine h1 w0 ν0 ν wx a w _ hi hfr fun ν' a' w' k1 k2 k3 => ?_
  have := hQ ν' a' w' k1 k2 k3
  revert this
  cases hx : o.ex with
  | normal => exact absurd hx he
  | exit j => exact fun h => h
  | ret => exact fun h => h
  | pan ch => exact fun h => h
def body (P : Program) (k m n : Nat) (keep : Xt → List Nat) (c : Code) (fr : Fr) (hp : Hp) : M Out := (run P (callA P (toldA P (exec P k))) m n c fr hp).bind fun o => lift (tidy P m (keep o.ex) o)
theorem body_ok (hN : Named P) (hC : Calm P) (hm : P.follows .mixedOrders = true) (k n : Nat) (keep : Xt → List Nat) (c : Code) (fr : Fr) (hp : Hp) (hc : calmC c = true) : Sat (body P k m n keep c fr hp) (CodeSpec P m c fr hp) :=
  Sat.bind (run_ok hN hC hm k m n c fr hp hc) fun o ho => Sat.lift fun o2 h => ho.tidy_out h
def loopsIn : Code → List Code
  | .seq a b => loopsIn a ++ loopsIn b
  | .cond _ a b => loopsIn a ++ loopsIn b
  | .block _ a => loopsIn a
  | .loop a => a :: loopsIn a
  | _ => []
def loopAt (P : Program) (f : FuncId) (i : Nat) : Code := (((P.funcs[f]?).bind (·.body)).map fun c => (loopsIn c).getD i .skip).getD .skip
theorem loopsIn_calm : ∀ (c : Code), calmC c = true → ∀ l, l ∈ loopsIn c → calmC l = true
  | .seq a b, h, l, hl => by
    simp only [calmC, Bool.and_eq_true] at h
    rcases List.mem_append.1 hl with hl | hl
    · exact loopsIn_calm a h.1 l hl
    · exact loopsIn_calm b h.2 l hl
  | .cond _ a b, h, l, hl => by
    simp only [calmC, Bool.and_eq_true] at h
    rcases List.mem_append.1 hl with hl | hl
    · exact loopsIn_calm a h.1 l hl
    · exact loopsIn_calm b h.2 l hl
  | .block _ a, h, l, hl => loopsIn_calm a h l hl
  | .loop a, h, l, hl => by
    rcases List.mem_cons.1 hl with rfl | hl
    · exact h
    · exact loopsIn_calm a h l hl
  | .skip, _, l, hl | .label _, _, l, hl | .region _ _ _, _, l, hl | .exit _, _, l, hl | .ret, _, l, hl | .rangeFunc _ _ _ _, _, l, hl | .scope _, _, l, hl | .goto _, _, l, hl | .refuse _, _, l, hl => by cases hl
theorem loopAt_calm (hC : Calm P) (f : FuncId) (i : Nat) : calmC (loopAt P f i) = true := by
  unfold loopAt
  cases hf : P.funcs[f]? with
  | none => rfl
  | some fn =>
    cases hb : fn.body with
    | none => simp [hb, calmC]
    | some c =>
      simp only [Option.bind_some, hb, Option.map_some, Option.getD_some]
      rw [List.getD_eq_getElem?_getD]
      cases hl : (loopsIn c)[i]? with
      | none => rfl
      | some l => exact loopsIn_calm c (hC f fn c hf hb) l (List.mem_of_getElem? hl)
def Res.le (a b : Res) : Prop := a.v = b.v ∧ a.hp = b.hp ∧ ∀ j, j ∈ a.wr → j ∈ b.wr
def Out.le (a b : Out) : Prop := a.ex = b.ex ∧ a.fr = b.fr ∧ a.hp = b.hp ∧ ∀ j, j ∈ a.wr → j ∈ b.wr
theorem CallSpec.id {f : FuncId} {args : List Value} {r : Res} (h : CallSpec P f args hp r) : CallSpec P f args hp r := h
theorem CodeSpec.id {o : Out} (h : CodeSpec P m c fr hp o) : CodeSpec P m c fr hp o := h
theorem CallSpec.le {f : FuncId} {args : List Value} {a b : Res} (h : CallSpec P f args hp a) (hl : Res.le a b) : CallSpec P f args hp b := by
  obtain ⟨v, h1, w⟩ := a
  obtain ⟨v', h1', w'⟩ := b
  obtain ⟨rfl, rfl, hw⟩ := hl
  exact fun ν W args' ha hr => (h ν W args' ha hr).mono fun e W' ⟨u, ν', h2, h3, h4⟩ => ⟨u, ν', h2, h3, h4.wrs fun j hj _ => hw j hj⟩
theorem CodeSpec.le {a b : Out} (h : CodeSpec P m c fr hp a) (hl : Out.le a b) : CodeSpec P m c fr hp b := by
  obtain ⟨e, f, h1, w⟩ := a
  obtain ⟨e', f', h1', w'⟩ := b
  obtain ⟨rfl, rfl, rfl, hw⟩ := hl
  exact h.wrs fun j hj _ => hw j hj
def F.bxor (k : IntKind) (a b : Int) : Int := k.wrap ((BitVec.ofInt k.bits a ^^^ BitVec.ofInt k.bits b).toNat : Nat)
def F.band (k : IntKind) (a b : Int) : Int := k.wrap ((BitVec.ofInt k.bits a &&& BitVec.ofInt k.bits b).toNat : Nat)
def F.bor (k : IntKind) (a b : Int) : Int := k.wrap ((BitVec.ofInt k.bits a ||| BitVec.ofInt k.bits b).toNat : Nat)
theorem quo_in {k : IntKind} {x y : Int} (h : 0 ≤ x ∧ x ≤ k.max ∧ 1 ≤ y) : k.wrap (x.tdiv y) = x / y := by
  rw [Int.tdiv_eq_ediv_of_nonneg h.1]
  have h1 : 0 ≤ x / y := Int.ediv_nonneg h.1 (by omega)
  have h2 : x / y ≤ x := Int.ediv_le_self _ h.1
  have h3 := h.2.1
  generalize x / y = q at h1 h2
  cases k <;> simp [IntKind.wrap, IntKind.bits, IntKind.signed, IntKind.max] at h3 ⊢ <;> (try split) <;> omega
theorem inside_of {i : Int} {n : Nat} (h : 0 ≤ i ∧ i < n) : inside i n = true := by
  unfold inside
  rw [decide_eq_true h.1, decide_eq_true h.2]; rfl
theorem upto_of {i : Int} {n : Nat} (h : 0 ≤ i ∧ i ≤ n) : upto i n = true := by
  unfold upto
  rw [decide_eq_true h.1, decide_eq_true h.2]; rfl
theorem all_nil : ∀ p, p ∈ ([] : List Prop) → p := fun _ h => by cases h
theorem all_cons {q : Prop} {l : List Prop} (h : q) (hl : ∀ p, p ∈ l → p) : ∀ p, p ∈ q :: l → p := fun p hp => by
  rcases List.mem_cons.1 hp with rfl | hp
  · exact h
  · exact hl p hp
end
end Go.Proofs.Ytbolppjlaipfjaa.Ex
namespace Go.Proofs.Ytbolppjlaipfjaa.Ex
open Go
theorem tnamed : Named Try.prog := by
  have h : (Try.prog.funcs.toList.all fun fn => !(fn.name == "runtime.NumGoroutine")) = true := by kernel_rfl
  intro g fn hg
  have := List.all_eq_true.1 h fn (Array.mem_toList_iff.2 (Array.mem_of_getElem? hg))
  simpa using this
theorem tmixed : Try.prog.follows .mixedOrders = true := by kernel_rfl
def calmF (fn : Func) : Bool := match fn.body with | some c => calmC c | none => true
theorem tcalm : Calm Try.prog := by
  have h : (Try.prog.funcs.toList.all calmF) = true := by kernel_rfl
  intro g fn c hg hc
  have := List.all_eq_true.1 h fn (Array.mem_toList_iff.2 (Array.mem_of_getElem? hg))
  unfold calmF at this
  rw [hc] at this
  exact this
end Go.Proofs.Ytbolppjlaipfjaa.Ex
end
namespace Go.Proofs.Ytbolppjlaipfjaa.Ex
theorem aN : ∀ p, p ∈ ([] : List Prop) → p := all_nil
theorem aC {q : Prop} {l : List Prop} (h : q) (hl : ∀ p, p ∈ l → p) : ∀ p, p ∈ q :: l → p := all_cons h hl
theorem dTq {p : Prop} [inst : Decidable p] (h : p) : decide p = true := decide_eq_true h
theorem dFq {p : Prop} [inst : Decidable p] (h : ¬ p) : decide p = false := decide_eq_false h
theorem dO {p : Prop} [inst : Decidable p] (h : p := by omega) : decide p = true := decide_eq_true h
theorem dN {p : Prop} [inst : Decidable p] (h : ¬ p := by omega) : decide p = false := decide_eq_false h
abbrev zSB (b n c : Nat) : Value := .slice (some ⟨b, 0, none⟩) n c
abbrev zSN : Value := .slice none 0 0
abbrev zPA (b : Nat) : Value := .pointer (some ⟨b, 0, none⟩)
abbrev zA2 (a b : Int) : Value := .agg #[.int .i64 a, .int .i64 b]
abbrev zA5 (a b c d e : Int) : Value := .agg #[.int .i64 a, .int .i64 b, .int .i64 c, .int .i64 d, .int .i64 e]
abbrev zA6 (a b c d e f : Int) : Value := .agg #[.int .i64 a, .int .i64 b, .int .i64 c, .int .i64 d, .int .i64 e, .int .i64 f]
abbrev zL6 (a b c d e f : Int) : List Value := [.int .i64 a, .int .i64 b, .int .i64 c, .int .i64 d, .int .i64 e, .int .i64 f]
theorem bF {b : Bool} (h : ¬ (b = true)) : b = false := Bool.eq_false_iff.2 h
end Go.Proofs.Ytbolppjlaipfjaa.Ex
section
set_option linter.unusedSectionVars false
set_option linter.unusedSimpArgs false
set_option linter.unusedVariables false
namespace Go.Proofs.Ytbolppjlaipfjaa.Ex
open Go Go.ChangeShapes Go.WideShapes Go.ChangeAt Go.RowKit
set_option linter.unusedVariables false
set_option linter.unusedSimpArgs false
theorem sz_mk (a : Array UInt8) : (ByteArray.mk a).size = a.size := rfl
structure OpF {α : Type} (P : Program) (t : TypeId) (f : α → List Value) (n : Nat) (good : α → Prop) : Prop where
  sz : P.cellsOf t = n
  op : ∀ {H : Type} {enc : TypeId × Value → H} {W : World} {held : Bool} {fuel : Nat} {cs : List Value} {x : DataW H × List MemPlace},
    DataW.trod enc P W 0 (fun _ => true) held fuel t cs = some x → (∀ n ∈ x.1.weights P t, n ≤ 140737488351232) → ∃ a, cs = f a ∧ (f a).length = n ∧ good a
section
variable {P : Program} {t e : TypeId} {α β : Type}
theorem OpF.mono {f : α → List Value} {n : Nat} {g g' : α → Prop} (h : OpF P t f n g) (hg : ∀ a, g a → g' a) : OpF P t f n g' := ⟨h.sz, fun h1 h2 => by
  obtain ⟨a, h3, h4, h5⟩ := h.op h1 h2
  exact ⟨a, h3, h4, hg a h5⟩⟩
theorem OpF.int {k : IntKind} (hc : P.cellsOf t = 1) (hu : P.underlying t = some (.int k)) : OpF P t (fun a => [.int k a]) 1 (fun a => (Lit.int k a).wf = true) := ⟨hc, fun h _ => by
  obtain ⟨n, rfl, _, hw⟩ := DataW.trod_int hu h
  exact ⟨n, rfl, rfl, hw⟩⟩
theorem OpF.bool (hc : P.cellsOf t = 1) (hu : P.underlying t = some .bool) : OpF P t (fun a => [.bool a]) 1 (fun _ => True) := ⟨hc, fun h _ => by
  obtain ⟨n, rfl, _⟩ := DataW.trod_bool hu h
  exact ⟨n, rfl, rfl, trivial⟩⟩
theorem OpF.string (hc : P.cellsOf t = 1) (hu : P.underlying t = some .string) : OpF P t (fun a => [.string a]) 1 (fun s => s.size ≤ 140737488351232) := ⟨hc, fun h hw => by
  obtain ⟨s, rfl, rfl, _⟩ := DataW.trod_string hu h
  have := hw s.data.toList.length (by simp [DataW.weights])
  exact ⟨s, rfl, rfl, by simpa using this⟩⟩
/-- The fields of a struct, from one on. -/
structure OpFs {α : Type} (P : Program) (fs : List Field) (off : Nat) (f : α → List Value) (n : Nat) (good : α → Prop) : Prop where
  op : ∀ {H : Type} {enc : TypeId × Value → H} {W : World} {held : Bool} {m : Nat} {cs : List Value} {xs : List (DataW H × List MemPlace)},
    cs.length = off + n → xs.length = fs.length → (∀ (i : Nat) g, fs[i]? = some g → DataW.trod enc P W 0 (fun _ => true) held m g.type ((cs.drop g.offset).take (P.cellsOf g.type)) = xs[i]?) →
    (∀ m ∈ DataW.weightsEach P (fs.map (·.type)) (xs.map (·.1)), m ≤ 140737488351232) → ∃ a, cs.drop off = f a ∧ (f a).length = n ∧ good a
theorem OpFs.one {f : α → List Value} {n : Nat} {good : α → Prop} {g : Field} {off : Nat} (ho : g.offset = off) (h : OpF P g.type f n good) : OpFs P [g] off f n good := ⟨fun {H enc W held m cs xs} hl hx ht hw => by
  match xs, hx with
  | [x0], _ =>
    have h0 := ht 0 g rfl
    rw [ho, h.sz, List.take_of_length_le (by simp; omega)] at h0
    exact h.op h0 (fun m hm => hw m (by simpa [DataW.weightsEach] using hm))⟩
theorem OpFs.cons {f : α → List Value} {f2 : β → List Value} {n n2 : Nat} {g : α → Prop} {g2 : β → Prop} {fd : Field} {fs : List Field} {off : Nat} (ho : fd.offset = off) (h : OpF P fd.type f n g) (hr : OpFs P fs (off + n) f2 n2 g2) :
    OpFs P (fd :: fs) off (fun (a : α × β) => f a.1 ++ f2 a.2) (n + n2) (fun a => g a.1 ∧ g2 a.2) := ⟨fun {H enc W held m cs xs} hl hx ht hw => by
  match xs, hx with
  | x0 :: xs, hx =>
    have h0 := ht 0 fd rfl
    rw [ho, h.sz] at h0
    obtain ⟨a, hK, hla, hg⟩ := h.op h0 (fun m hm => hw m (by simp only [List.map_cons, DataW.weightsEach, List.mem_append]; exact .inl hm))
    obtain ⟨b, hK2, hlb, hg2⟩ := hr.op (W := W) (cs := cs) (xs := xs) (by omega) (by simpa using hx) (fun i f2 hf => ht (i + 1) f2 (by simpa using hf)) (fun m hm => hw m (by simp only [List.map_cons, DataW.weightsEach, List.mem_append]; exact .inr hm))
    refine ⟨(a, b), ?_, by simp [hla, hlb], hg, hg2⟩
    rw [← hK, ← hK2, ← List.drop_drop, List.take_append_drop]⟩
theorem OpF.struct {f : α → List Value} {n : Nat} {good : α → Prop} {fs : Array Field} (hu : P.underlying t = some (.struct fs)) (hc : P.cellsOf t = n) (h : OpFs P fs.toList 0 f n good) : OpF P t f n good := ⟨hc, fun {H enc W held fuel cs x} ht hw => by
  obtain ⟨xs, m, _, rfl, hl, hlen, hf⟩ := DataW.trod_struct hu ht
  have := h.op (W := W) (cs := cs) (xs := xs) (by rw [hl, hc]; simp) (by simpa using hlen) (fun i f hf' => hf i f (by simpa using hf')) (fun m hm => hw m (by simpa [DataW.weights, hu] using hm))
  simpa using this⟩
theorem weights_all {H : Type} {ds : List (DataW H)} {d : DataW H} (h : d ∈ ds) : ∀ n ∈ d.weights P e, n ∈ DataW.weightsAll P e ds := by
  induction ds with
  | nil => cases h
  | cons d0 ds ih =>
    intro n hn
    simp only [DataW.weightsAll, List.mem_append]
    rcases List.mem_cons.1 h with rfl | h
    · exact .inl hn
    · exact .inr (ih h n hn)
theorem rows_of {f : α → List Value} {n : Nat} {good : α → Prop} : ∀ (k : Nat) (get : Nat → List Value), (∀ i, i < k → ∃ a, get i = f a ∧ (f a).length = n ∧ good a) →
    ∃ l : List α, l.length = k ∧ (∀ i, i < k → ∃ a, l[i]? = some a ∧ get i = f a ∧ (f a).length = n) ∧ ∀ a ∈ l, good a
  | 0, get, _ => ⟨[], rfl, fun i hi => by omega, fun a ha => by cases ha⟩
  | k + 1, get, h => by
    obtain ⟨a, h1, h2, h3⟩ := h 0 (by omega)
    obtain ⟨l, k1, k2, k3⟩ := rows_of k (fun i => get (i + 1)) (fun i hi => h (i + 1) (by omega))
    refine ⟨a :: l, by simp [k1], fun i hi => ?_, fun b hb => ?_⟩
    · cases i with
      | zero => exact ⟨a, rfl, h1, h2⟩
      | succ i => simpa using k2 i (by omega)
    · rcases List.mem_cons.1 hb with rfl | hb
      · exact h3
      · exact k3 b hb
theorem flat_len {f : α → List Value} {n : Nat} : ∀ {l : List α}, (∀ a ∈ l, (f a).length = n) → (l.flatMap f).length = l.length * n
  | [], _ => by simp
  | a :: l, h => by
    rw [List.flatMap_cons, List.length_append, h a List.mem_cons_self, flat_len (fun b hb => h b (List.mem_cons_of_mem _ hb)), List.length_cons, Nat.succ_mul]
    omega
theorem flat_get {f : α → List Value} {n : Nat} : ∀ {l : List α}, (∀ a ∈ l, (f a).length = n) → ∀ (i j : Nat) (a : α), l[i]? = some a → j < n → (l.flatMap f)[i * n + j]? = (f a)[j]?
  | [], _, i, j, a, h, _ => by simp at h
  | b :: l, hl, i, j, a, h, hj => by
    have hb := hl b List.mem_cons_self
    rw [List.flatMap_cons]
    cases i with
    | zero =>
      simp only [List.getElem?_cons_zero, Option.some.injEq] at h
      subst h
      rw [Nat.zero_mul, Nat.zero_add, List.getElem?_append_left (by omega)]
    | succ i =>
      have := flat_get (l := l) (fun c hc => hl c (List.mem_cons_of_mem _ hc)) i j a (by simpa using h) hj
      rw [List.getElem?_append_right (by rw [hb, Nat.succ_mul]; omega), ← this]
      congr 1
      rw [hb, Nat.succ_mul]
      omega
theorem OpF.array {f : α → List Value} {n : Nat} {good : α → Prop} (k : Nat) (hu : P.underlying t = some (.array k e)) (hc : P.cellsOf t = k * n) (h : OpF P e f n good) :
    OpF P t (fun l : List α => l.flatMap f) (k * n) (fun l => l.length = k ∧ ∀ a ∈ l, good a) := ⟨hc, fun {H enc W held fuel cs x} ht hw => by
  obtain ⟨xs, m, _, rfl, hl, hlen, hf⟩ := DataW.trod_array hu ht
  rw [hc] at hl
  obtain ⟨l, k1, k2, k3⟩ := rows_of (f := f) (n := n) (good := good) k (fun i => (cs.drop (i * n)).take n) (fun i hi => by
    have h1 := hf i hi
    rw [h.sz] at h1
    obtain ⟨x, hx⟩ : ∃ x, xs[i]? = some x := ⟨xs[i], by simp [hlen, hi]⟩
    rw [hx] at h1
    exact h.op h1 (fun q hq => hw q (by
      simp only [DataW.weights, hu]
      exact weights_all (List.mem_map.2 ⟨x, List.mem_of_getElem? hx, rfl⟩) q hq)))
  have hfl : ∀ a ∈ l, (f a).length = n := fun a ha => by
    obtain ⟨i, hi, rfl⟩ := List.getElem_of_mem ha
    obtain ⟨b, q1, _, q3⟩ := k2 i (by omega)
    rw [List.getElem?_eq_getElem hi] at q1
    cases q1
    exact q3
  have hll : (l.flatMap f).length = k * n := by rw [flat_len hfl, k1]
  refine ⟨l, ?_, hll, k1, k3⟩
  apply List.ext_getElem?
  intro i
  rcases Nat.lt_or_ge i (k * n) with hi | hi
  · have hn : 0 < n := by
      rcases Nat.eq_zero_or_pos n with h0 | h0
      · rw [h0, Nat.mul_zero] at hi; omega
      · exact h0
    have hq : i / n < k := Nat.div_lt_of_lt_mul (by rw [Nat.mul_comm]; exact hi)
    obtain ⟨a, q1, q2, q3⟩ := k2 (i / n) hq
    have hr := Nat.mod_lt i hn
    have e1 : i = i / n * n + i % n := by rw [Nat.mul_comm]; exact (Nat.div_add_mod i n).symm
    have := flat_get hfl (i / n) (i % n) a q1 hr
    rw [← e1] at this
    rw [this, ← q2, List.getElem?_take, if_pos hr, List.getElem?_drop, ← e1]
  · rw [List.getElem?_eq_none (by omega), List.getElem?_eq_none (by omega)]⟩
theorem law_calls {f : FuncId} {args args' : List Value} {hp hp' : Hp} {ν : Nu} {W : World} (h : CallSpec P f args hp ⟨.bool true, hp', []⟩) (ha : L2 (VR ν) args args') (hr : Rep P ν hp W) :
    Calls P f args'.toArray W fun e W' => e = .returned (.bool true) ∧ Below W.heap.size W W' :=
  (h ν W args' ha hr).mono fun e W' ⟨v', ν', he, hv, hi⟩ => by
    have : v' = .bool true := hv
    subst this
    exact ⟨he, hi.os, hi.tape, hi.output, hi.size, fun k hk => hi.frame k hk fun id N _ hid => by cases hid⟩
theorem row_calls {f : FuncId} {A : Array Value} {W : World} (h : ∃ (args' : List Value) (hp hp' : Hp) (ν : Nu) (args0 : List Value), A = args'.toArray ∧ L2 (VR ν) args0 args' ∧ Rep P ν hp W ∧ CallSpec P f args0 hp ⟨.bool true, hp', []⟩) :
    Calls P f A W fun e W' => e = .returned (.bool true) ∧ Below W.heap.size W W' := by
  obtain ⟨args', hp, hp', ν, args0, rfl, ha, hr, hs⟩ := h
  exact law_calls hs ha hr
theorem rep_none (W : World) : Rep P (fun _ => none) [] W := ⟨fun _ _ => rfl, fun id => by cases id <;> trivial, fun i j N K _ hi => by cases i <;> cases hi⟩
end
end Go.Proofs.Ytbolppjlaipfjaa.Ex
end
section
set_option linter.unusedSectionVars false
set_option linter.unusedSimpArgs false
set_option linter.unusedVariables false
namespace Go.Proofs.Ytbolppjlaipfjaa.Ex
open Go
set_option linter.unusedVariables false
set_option linter.unusedSimpArgs false
section
variable {P : Program}
def Pan (ch : List PanicEntry) (e : Ending) (v : Value) : Prop := e = .panicked ch
def toldE (E : Ending → Value → Prop) (P : Program) (r : Res) : CallF := fun g args hp o => some ⟨r, o, true, [CallSpecE E P g args hp r]⟩
theorem toldE_sat {E : Ending → Value → Prop} {r : Res} {g : FuncId} {args : List Value} {hp : Hp} : Sat (toldE E P r g args hp) (CallSpecE E P g args hp) := fun o q he hg => by
  cases he
  exact hg.2 _ (List.mem_singleton.2 rfl)
def opPan (P : Program) (ch : List PanicEntry) (r0 : Res) (fr : Fr) (hp : Hp) (o : Oper) : M Res :=
  match o.op with
  | .call { callee := .value f, args := xs0, argTypes := _ } => (lift (val fr f)).bind fun fv => (lift (vals fr xs0.toList)).bind fun vs => match fv with
      | .func (.func g) first captured => if bodied P g = true then callA P (toldE (Pan ch) P r0) g (first.toList ++ vs ++ captured.toList) hp else stop
      | _ => stop
  | _ => stop
def PanOk (P : Program) (ch : List PanicEntry) (F : List Nat) (fr : Fr) (hp : Hp) (o : Oper) (r : Res) : Prop :=
  Shape F hp r ∧ ∀ ν (a : Act) w, Env ν fr a o → Pre P F ν hp w → ∀ (next : Act → World → Prop) (Q : Exit → Act → World → Prop),
    (∀ ν' w', Post P F ν hp w r ν' w' → Q (.panic ch) a w') → o.wp P a w next Q
theorem opPan_sat (hN : Named P) {ch : List PanicEntry} {r0 : Res} {F : List Nat} {fr : Fr} {hp : Hp} {o : Oper} (hF : ∀ id, id ∈ footA P fr hp o → id ∈ F) : Sat (opPan P ch r0 fr hp o) (PanOk P ch F fr hp o) := by
  unfold opPan
  split
  · rename_i f xs ts ho
    refine Sat.bind_lift fun fv hf => Sat.bind_lift fun vs hvs => ?_
    split
    · rename_i g first captured
      by_cases hb : bodied P g = true
      case neg => rw [if_neg hb]; exact Sat.stop
      rw [if_pos hb]
      have hids : ∀ id, id ∈ argIds P hp (first.toList ++ vs ++ captured.toList) → id ∈ F := fun id hid => hF id (by
        unfold footA
        rw [ho]
        simp only [hf, hvs]
        exact hid)
      refine (call_satE (E := Pan ch) (fun args hp => toldE_sat) hids).mono fun r hr => ⟨hr.1, fun ν a w he hpre next Q hnx => ?_⟩
      obtain ⟨f', c', e1, h1, h2⟩ := func_VR (he f (by simp [ho, Op.operands, Call.operands]) _ hf)
      have h3 := vals_L2 (ν := ν) (a := a) hvs fun x hx v hv => he x (by simp [ho, Op.operands, Call.operands]; exact .inr (by simpa using hx)) v hv
      have hrun : (execOp a.eval o).run P w = .ok (.enter g (f' ++ xs.map a.eval ++ c')) w := by
        simp only [execOp, ho, resolve, e1, Deferred.ofValue, invoke, Sem.run_bind, Sem.run_pure, Result.andThen_ok, callFunc_run hN hb]
      have hl : L2 (VR ν) (first.toList ++ vs ++ captured.toList) (f' ++ xs.map a.eval ++ c').toList := by
        rw [Array.toList_append, Array.toList_append, Array.toList_map]
        exact (h1.append h3).append h2
      unfold Oper.wp
      rw [hrun, Oper.upon_enter]
      have := hr.2 ν w _ hl hpre
      rw [Array.toArray_toList] at this
      refine this.mono fun e w' hE => ?_
      obtain ⟨v', ν', hend, _, hpost⟩ := hE
      cases hend
      exact hnx ν' w' hpost
    · exact Sat.stop
  · exact Sat.stop
def opsPan (P : Program) (call : CallF) (ch : List PanicEntry) (r0 : Res) (all : Array Oper) : Nat → List Oper → Fr → Hp → List Nat → M (Fr × Hp × List Nat)
  | _, [], _, _, _ => stop
  | 0, o :: _, fr, hp, wr => (wantA all fr o).bind fun b => if b = true then (opPan P ch r0 fr hp o).map fun r => (fr, r.hp, r.wr ++ wr) else stop
  | k + 1, o :: os, fr, hp, wr => (wantA all fr o).bind fun b =>
      if b = true then (opS P call fr hp o).bind fun r => opsPan P call ch r0 all k os (putT fr o.dst r.v) r.hp (r.wr ++ wr)
      else opsPan P call ch r0 all k os (putT fr o.dst undef) hp wr
def OpsPanSpec (P : Program) (ch : List PanicEntry) (all : Array Oper) (os : List Oper) (fr : Fr) (hp : Hp) (wr : List Nat) (fr' : Fr) (hp' : Hp) (wr' : List Nat) : Prop :=
  ∀ w0 ν0 m ν wx (a : Act) w (Q : Exit → Act → World → Prop), Inv P w0 ν0 m ν hp (wr ++ wx) w → FrRel ν fr a.tmps →
    (∀ ν' (a' : Act) w', Inv P w0 ν0 m ν' hp' (wr' ++ wx) w' → FrRel ν' fr' a'.tmps → a'.defers = a.defers → Q (.panic ch) a' w') → wpList P all Q os a w
theorem opsPan_sat {call : CallF} (hN : Named P) (hcall : Sound P call) {ch : List PanicEntry} {r0 : Res} {all : Array Oper} : ∀ (k : Nat) (os : List Oper) (fr : Fr) (hp : Hp) (wr : List Nat),
    Sat (opsPan P call ch r0 all k os fr hp wr) fun r => OpsPanSpec P ch all os fr hp wr r.1 r.2.1 r.2.2
  | _, [], fr, hp, wr => by cases ‹Nat› <;> exact Sat.stop
  | 0, o :: os, fr, hp, wr => by
    unfold opsPan
    refine Sat.bind want_sat fun b hb => ?_
    split
    · rename_i hbt
      subst hbt
      refine Sat.map ((opPan_sat hN (F := List.range hp.length ++ footA P fr hp o) fun id hid => List.mem_append.2 (.inr hid)).mono fun r hr => ?_)
      intro w0 ν0 m ν wx a w Q hi hfr hQ
      unfold wpList
      rw [if_pos (hb ν a.tmps hfr)]
      refine .inl (hr.2 ν a w (fun x _ v hv => val_eval hfr hv) (hi.rep.pre _) _ _ fun ν' w' hp' => ?_)
      have hi' := hi.step hr.1 (fun id hid => List.mem_append.2 (.inl (List.mem_range.2 hid))) hp'
      rw [← List.append_assoc] at hi'
      exact hQ ν' a w' hi' (hfr.le (Post.le (hi.rep.pre _) hp')) rfl
    · exact Sat.stop
  | k + 1, o :: os, fr, hp, wr => by
    unfold opsPan
    refine Sat.bind want_sat fun b hb => ?_
    split
    · rename_i hbt
      subst hbt
      have hop : Sat (opS P call fr hp o) (OpOk P (List.range hp.length ++ footA P fr hp o) fr hp o) :=
        opS_sat hN (fun g args hids => hcall _ g args hp hids) fun id hid => List.mem_append.2 (.inr hid)
      refine Sat.bind hop fun r hr => (opsPan_sat hN hcall k os _ _ _).mono fun q hq => ?_
      intro w0 ν0 m ν wx a w Q hi hfr hQ
      unfold wpList
      rw [if_pos (hb ν a.tmps hfr)]
      refine .inl (hr.2 ν a w (fun x _ v hv => val_eval hfr hv) (hi.rep.pre _) _ _ fun ν' v' w' hp' hv' => ?_)
      have hi' := hi.step hr.1 (fun id hid => List.mem_append.2 (.inl (List.mem_range.2 hid))) hp'
      rw [← List.append_assoc] at hi'
      exact hq w0 ν0 m ν' wx _ w' Q hi' ((hfr.le (Post.le (hi.rep.pre _) hp')).put hv') fun ν2 a2 w2 k1 k2 k3 => hQ ν2 a2 w2 k1 k2 (k3.trans put_defers)
    · rename_i hbf
      have hbf : b = false := by simpa using hbf
      subst hbf
      refine (opsPan_sat hN hcall k os _ _ _).mono fun q hq => ?_
      intro w0 ν0 m ν wx a w Q hi hfr hQ
      unfold wpList
      rw [if_neg (by rw [hb ν a.tmps hfr]; simp)]
      exact hq w0 ν0 m ν wx _ w Q hi (hfr.put ⟨#[], rfl, .nil⟩) fun ν2 a2 w2 k1 k2 k3 => hQ ν2 a2 w2 k1 k2 (k3.trans put_defers)
theorem frRel_empty {ν : Nu} {n : Nat} {tmps : Array Value} (h : tmps.size = n) : FrRel ν (Fr.empty n) tmps := ⟨h.symm, fun t v hv => by rw [Fr.empty_get] at hv; cases hv⟩
def regPan (P : Program) (call : CallF) (ch : List PanicEntry) (r0 : Res) (k : Nat) (keep : List Nat) (m : Nat) (c : Code) (fr : Fr) (hp : Hp) : M Out :=
  match c with
  | .region _ ops false => (opsPan P call ch r0 ops k ops.toList fr hp []).bind fun q => lift (tidy P m keep ⟨.pan ch, q.1, q.2.1, q.2.2⟩)
  | _ => stop
theorem regPan_ok (hN : Named P) (hC : Calm P) (hm : P.follows .mixedOrders = true) {n : Nat} {ch : List PanicEntry} {r0 : Res} {k m : Nat} {keep : List Nat} {c : Code} {fr : Fr} {hp : Hp} :
    Sat (regPan P (callA P (toldA P (exec P n))) ch r0 k keep m c fr hp) (CodeSpec P m c fr hp) := by
  have told : ∀ g args hp, Sat (toldA P (exec P n) g args hp) (CallSpec P g args hp) := by
    intro g args hp o r he hg
    unfold toldA at he
    split at he
    · cases he
      exact hg.2 _ (by simp)
    · cases he
    · exact exec_ok hN hC hm n g args hp _ _ he hg
    · exact exec_ok hN hC hm n g args hp _ _ he hg
  have hS : Sound P (callA P (toldA P (exec P n))) := fun F g args hp hF => call_sat (fun args hp => told g args hp) hF
  unfold regPan
  split
  · rename_i id ops
    refine Sat.bind (opsPan_sat hN hS k _ _ _ _) fun q hq => Sat.lift fun o ho => ?_
    refine CodeSpec.tidy_out (keep := keep) (o := ⟨.pan ch, q.1, q.2.1, q.2.2⟩) ?_ ho
    intro w0 ν0 ν wx a w Q hi hfr hQ
    exact wp_region_list (hq w0 ν0 m ν wx a w Q hi hfr fun ν' a' w' k1 k2 k3 => hQ ν' a' w' k1 k2 k3)
  · exact Sat.stop
theorem callE_of_code {f : FuncId} {fn : Func} {c : Code} {args : List Value} {hp : Hp} {ch : List PanicEntry} {fr' : Fr} {hp' : Hp} {wr : List Nat} (hf : P.funcs[f]? = some fn) (hb : fn.body = some c) (hle : args.length ≤ fn.ntmps)
    (h : CodeSpec P hp.length c (frame0 fn args) hp ⟨.pan ch, fr', hp', wr⟩) : CallSpecE (Pan ch) P f args hp ⟨undef, hp', wr⟩ := by
  intro ν w args' hargs hrep
  have hlen := hargs.len
  have hi0 : Inv P w ν hp.length ν hp ([] ++ []) w := ⟨hrep, Nat.le_refl _, fun _ _ => rfl, rfl, rfl, rfl, Nat.le_refl _, fun _ _ _ => rfl, fun id N hid _ hN => by rw [hrep.dom id hid] at hN; cases hN⟩
  refine calls_of_wp hf hb (h w ν ν [] _ w _ hi0 ?_ fun ν' a' w' k1 k2 k3 => ?_)
  · refine ⟨by unfold frame0; rw [frArgs_n]; simp [Fr.empty, ← hlen]; omega, fun t v hv => ?_⟩
    unfold frame0 at hv
    rcases frArgs_get _ _ _ _ _ hv with ⟨_, h0⟩ | h0
    · rw [Nat.sub_zero] at h0
      obtain ⟨u', h1, h2⟩ := hargs.get t v h0
      refine ⟨u', ?_, h2⟩
      have ht := (List.getElem?_eq_some_iff.1 h1).1
      rw [Array.getElem?_append_left (by simpa using ht)]
      simpa using h1
    · rw [Fr.empty_get] at h0
      cases h0
  · rw [List.append_nil] at k1
    exact ⟨k3, undef, ν', rfl, ⟨#[], rfl, .nil⟩, k1⟩
theorem put_size {a : Act} {d : Option Tmp} {v : Value} : (a.put d v).tmps.size = a.tmps.size := by cases d <;> simp [Act.put]
def regsIn : Code → List Code
  | .seq a b => regsIn a ++ regsIn b
  | .cond _ a b => regsIn a ++ regsIn b
  | .block _ a => regsIn a
  | .loop a => regsIn a
  | .region id ops d => [.region id ops d]
  | _ => []
def regAt (P : Program) (f : FuncId) (i : Nat) : Code := (((P.funcs[f]?).bind (·.body)).map fun c => (regsIn c).getD i .skip).getD .skip
def opsOf : Code → Array Oper
  | .region _ ops _ => ops
  | _ => #[]
def opOf (c : Code) (i : Nat) : Oper := (opsOf c).getD i default
def bodyOf (P : Program) (f : FuncId) : Code := (((P.funcs[f]?).bind (·.body))).getD .skip
theorem bodyOf_calm (hC : Calm P) (f : FuncId) : calmC (bodyOf P f) = true := by
  unfold bodyOf
  cases hf : P.funcs[f]? with
  | none => rfl
  | some fn =>
    cases hb : fn.body with
    | none => simp [hb, calmC]
    | some c =>
      simp only [Option.bind_some, hb, Option.getD_some]
      exact hC f fn c hf hb
theorem throw_spec {c : Code} {id d1 d2 : Nat} {t : TypeId} {o1 o2 o3 : Oper} (hc : c = .region id (opsOf c) false) (ho : (opsOf c).toList = [o1, o2, o3])
    (h1 : o1.op = .build t #[]) (g1 : o1.guard = none) (e1 : o1.dst = some d1) (h2 : o2.op = .makeInterface t (.tmp d1)) (g2 : o2.guard = none) (e2 : o2.dst = some d2) (h3 : o3.op = .panic (.tmp d2)) (g3 : o3.guard = none)
    (hu : P.underlying t = some (.struct #[])) (hz : zeroT P t = some (.agg #[])) {m : Nat} {fr : Fr} {hp : Hp} (hd1 : d1 < fr.n) (hd2 : d2 < fr.n) :
    CodeSpec P m c fr hp ⟨.pan [⟨.iface t (.agg #[]), false, false⟩], Fr.empty fr.n, hp, []⟩ := by
  intro w0 ν0 ν wr a w Q hi hfr hQ
  have hn := hfr.1
  rw [hc]
  refine wp_region_list ?_
  rw [ho]
  have w1 : Region.wanted o1 (yielded (opsOf c) a.tmps) = true := by simp [Region.wanted, g1]
  have w2 : ∀ tm, Region.wanted o2 (yielded (opsOf c) tm) = true := fun tm => by simp [Region.wanted, g2]
  have w3 : ∀ tm, Region.wanted o3 (yielded (opsOf c) tm) = true := fun tm => by simp [Region.wanted, g3]
  have r1 : (execOp a.eval o1).run P w = .ok (.value (.agg #[])) w := by
    simp [execOp, h1, Instr.build, run_und hu, run_zeroT hz, Instr.fill]
    rfl
  unfold wpList
  rw [if_pos w1]
  refine .inl ?_
  unfold Oper.wp
  rw [r1, Oper.upon_value]
  unfold wpList
  rw [if_pos (w2 _)]
  refine .inl ?_
  unfold Oper.wp
  have v1 : (a.put o1.dst (.agg #[])).eval (.tmp d1) = .agg #[] := by
    rw [e1]
    simp [Act.eval, Act.put, ← hn, hd1]
  have r2 : (execOp (a.put o1.dst (.agg #[])).eval o2).run P w = .ok (.value (.iface t (.agg #[]))) w := by
    simp [execOp, h2, v1, Instr.makeInterface, run_und hu]
  rw [r2, Oper.upon_value]
  unfold wpList
  rw [if_pos (w3 _)]
  refine .inl ?_
  unfold Oper.wp
  have v2 : ((a.put o1.dst (.agg #[])).put o2.dst (.iface t (.agg #[]))).eval (.tmp d2) = .iface t (.agg #[]) := by
    have hs : d2 < (a.put o1.dst (.agg #[])).tmps.size := by rw [put_size, ← hn]; exact hd2
    generalize a.put o1.dst (.agg #[]) = b at hs
    rw [e2]
    simp [Act.eval, Act.put, hs]
  have r3 : (execOp ((a.put o1.dst (.agg #[])).put o2.dst (.iface t (.agg #[]))).eval o3).run P w = .halt (.panic (.iface t (.agg #[]))) w := by
    simp [execOp, h3, v2, Instr.panic, goPanic]
  rw [r3, Oper.upon_panic]
  refine hQ ν _ w hi (frRel_empty ?_) ?_
  · rw [put_size, put_size, hn]
  · rw [put_defers, put_defers]
end
end Go.Proofs.Ytbolppjlaipfjaa.Ex
end
section
set_option linter.unusedSectionVars false
set_option linter.unusedSimpArgs false
set_option linter.unusedVariables false
namespace Go.Proofs.Ytbolppjlaipfjaa.Ex
open Go
set_option linter.unusedVariables false
def early : List PanicEntry := [⟨.iface 61 (.agg #[]), false, false⟩]
def src (s : ByteArray) (k : Int) : Blk := .own 56 [.string s, .int .i64 k]
noncomputable def cNext : Code := bodyOf Try.prog 31
noncomputable def rgNext : Code := regAt Try.prog 31 2
noncomputable def lpF : Code := loopAt Try.prog 32 0
noncomputable def rgField : Code := regAt Try.prog 32 5
theorem cNext_calm : calmC cNext = true := bodyOf_calm tcalm 31
theorem lpF_calm : calmC lpF = true := loopAt_calm tcalm 32 0
theorem rgNext_pan {m : Nat} {fr : Fr} {hp : Hp} (h1 : 14 < fr.n) : CodeSpec Try.prog m rgNext fr hp ⟨.pan early, Fr.empty fr.n, hp, []⟩ :=
  throw_spec (id := 2) (d1 := 13) (d2 := 14) (o1 := opOf rgNext 0) (o2 := opOf rgNext 1) (o3 := opOf rgNext 2) (by kernel_rfl) (by kernel_rfl) (by kernel_rfl) (by kernel_rfl) (by kernel_rfl) (by kernel_rfl) (by kernel_rfl) (by kernel_rfl) (by kernel_rfl) (by kernel_rfl) (by kernel_rfl) (by kernel_rfl) (by omega) h1
def frF (w n i b : Int) : Fr := frOf 38 [(0, at_ 0 0), (1, .int .i64 w), (5, .int .i64 b), (6, .int .i64 n), (7, .int .i64 i)]
theorem reg_run (s : ByteArray) (k n : Int) : go (regPan Try.prog (callA Try.prog (toldA Try.prog (exec Try.prog 8))) early ⟨undef, [src s k], []⟩ 2 [] 1 rgField (frOf 38 [(0, at_ 0 0), (6, .int .i64 n)]) [src s k]) [] = some (⟨.pan early, frOf 38 [], [src s k], []⟩, true, [CallSpecE (Pan early) Try.prog 31 [at_ 0 0] [src s k] ⟨undef, [src s k], []⟩]) := by kernel_rfl
theorem reg_pan {s : ByteArray} {k n : Int} (h : CallSpecE (Pan early) Try.prog 31 [at_ 0 0] [src s k] ⟨undef, [src s k], []⟩) : CodeSpec Try.prog 1 rgField (frOf 38 [(0, at_ 0 0), (6, .int .i64 n)]) [src s k] ⟨.pan early, frOf 38 [], [src s k], []⟩ :=
  go_ok (regPan_ok tnamed tcalm tmixed) (reg_run s k n) (aC h aN)
section
variable (s : ByteArray) (k : Int) (hs : ByteArray.size s ≤ 140737488351232) (hk : 0 ≤ k ∧ k < (↑(ByteArray.size s) : Int))
include s k hs hk
theorem next_ok_p : go (exec (Try.prog) (8) (31) ([at_ 0 0]) ([src s k])) [(18, .dec false), (6, Itm.val (.int .i64 (k + 1))), (19, Itm.val (.int .i64 (k + 1 - 1))), (0, Itm.must)] = some (.mk (.int .u8 (↑(UInt8.toNat (List.getD (Array.toList (ByteArray.data s)) (Int.toNat (k + 1 - 1)) 0)) : Int)) [.own 56 [.string s, .int .i64 (k + 1)]] [0], true, [decide (k ≥ (↑(ByteArray.size s) : Int)) = false, Value.int .i64 (IntKind.wrap .i64 (k + 1)) = .int .i64 (k + 1), Value.int .i64 (IntKind.wrap .i64 (k + 1 - 1)) = .int .i64 (k + 1 - 1), inside (k + 1 - 1) (ByteArray.size s) = true]) := by kernel_rfl
theorem next_ok (R : Res) (k_p : Res.le (.mk (.int .u8 (↑(UInt8.toNat (List.getD (Array.toList (ByteArray.data s)) (Int.toNat (k + 1 - 1)) 0)) : Int)) [.own 56 [.string s, .int .i64 (k + 1)]] [0]) R) : CallSpec (Try.prog) (31) ([at_ 0 0]) ([src s k]) R := by
  exact (CallSpec.id (go_ok (exec_ok tnamed tcalm tmixed _ _ _ _) (next_ok_p s k hs hk ) (aC dN (aC (congrArg (Value.int _) (Go.IntWalk.i64_in _ (by omega))) (aC (congrArg (Value.int _) (Go.IntWalk.i64_in _ (by omega))) (aC (inside_of (by omega)) aN)))))).le (k_p )
end
section
variable (s : ByteArray) (k : Int) (hs : ByteArray.size s ≤ 140737488351232) (hk : (↑(ByteArray.size s) : Int) ≤ k)
include s k hs hk
theorem next_pan_p : go (body (Try.prog) (8) (1) (8) (fun x => []) (cNext) (frOf 32 [(0, at_ 0 0)]) ([src s k])) [(17, .dec true), (0, Itm.loop [] (Out.mk (Xt.pan early) (frOf 32 []) [.own 56 [.string s, .int .i64 k]] []))] = some (Out.mk (Xt.pan early) (frOf 32 []) [.own 56 [.string s, .int .i64 k]] [], true, [decide (k ≥ (↑(ByteArray.size s) : Int)) = true, CodeSpec Try.prog 1 rgNext (frOf 32 []) [.own 56 [.string s, .int .i64 k]] (Out.mk (Xt.pan early) (frOf 32 []) [.own 56 [.string s, .int .i64 k]] [])]) := by kernel_rfl
theorem next_pan (R : Out) (k_p : Out.le (Out.mk (Xt.pan early) (frOf 32 []) [.own 56 [.string s, .int .i64 k]] []) R) : CodeSpec (Try.prog) (1) (cNext) (frOf 32 [(0, at_ 0 0)]) ([src s k]) R := by
  exact (CodeSpec.id (go_ok (body_ok tnamed tcalm tmixed _ _ _ _ _ _ cNext_calm) (next_pan_p s k hs hk ) (aC dO (aC ((rgNext_pan (by decide))) aN)))).le (k_p )
end
section
variable (s : ByteArray) (k w n i b : Int) (hs : ByteArray.size s ≤ 140737488351232) (hk : 0 ≤ k ∧ k < (↑(ByteArray.size s) : Int)) (hi : 0 ≤ i ∧ i < b ∧ b ≤ 32)
include s k w n i b hs hk hi
theorem fr_ok_p : go (body (Try.prog) (8) (1) (8) (fun x => [0, 1, 5, 6, 7]) (lpF) (frF w n i b) ([src s k])) [(4, .dec true), (21, .dec false), (6, Itm.val (.int .i64 (k + 1))), (19, Itm.val (.int .i64 (k + 1 - 1))), (0, Itm.must), (8, Itm.must), (5, Itm.val (.int .i64 (i + 8)))] = some (Out.mk Xt.normal (frOf 38 [(0, (zPA 0)), (1, .int .i64 w), (5, .int .i64 b), (6, .int .i64 (F.bor .i64 n (IntKind.wrap .i64 (IntKind.wrap .i64 (↑(UInt8.toNat (List.getD (Array.toList (ByteArray.data s)) (Int.toNat (k + 1 - 1)) 0)) : Int) * 2 ^ min (Int.toNat i) 64)))), (7, .int .i64 (i + 8))]) [.own 56 [.string s, .int .i64 (k + 1)]] [0], true, [decide (i < b) = true, decide (k ≥ (↑(ByteArray.size s) : Int)) = false, Value.int .i64 (IntKind.wrap .i64 (k + 1)) = .int .i64 (k + 1), Value.int .i64 (IntKind.wrap .i64 (k + 1 - 1)) = .int .i64 (k + 1 - 1), inside (k + 1 - 1) (ByteArray.size s) = true, decide (0 ≤ i) = true, Value.int .i64 (IntKind.wrap .i64 (i + 8)) = .int .i64 (i + 8)]) := by kernel_rfl
theorem fr_ok (R : Out) (k_p : Out.le (Out.mk Xt.normal (frOf 38 [(0, (zPA 0)), (1, .int .i64 w), (5, .int .i64 b), (6, .int .i64 (F.bor .i64 n (IntKind.wrap .i64 (IntKind.wrap .i64 (↑(UInt8.toNat (List.getD (Array.toList (ByteArray.data s)) (Int.toNat (k + 1 - 1)) 0)) : Int) * 2 ^ min (Int.toNat i) 64)))), (7, .int .i64 (i + 8))]) [.own 56 [.string s, .int .i64 (k + 1)]] [0]) R) : CodeSpec (Try.prog) (1) (lpF) (frF w n i b) ([src s k]) R := by
  exact (CodeSpec.id (go_ok (body_ok tnamed tcalm tmixed _ _ _ _ _ _ lpF_calm) (fr_ok_p s k w n i b hs hk hi ) (aC dO (aC dN (aC (congrArg (Value.int _) (Go.IntWalk.i64_in _ (by omega))) (aC (congrArg (Value.int _) (Go.IntWalk.i64_in _ (by omega))) (aC (inside_of (by omega)) (aC dO (aC (congrArg (Value.int _) (Go.IntWalk.i64_in _ (by omega))) aN))))))))).le (k_p )
end
section
variable (s : ByteArray) (k w n i b : Int) (hs : ByteArray.size s ≤ 140737488351232) (hk : (↑(ByteArray.size s) : Int) ≤ k) (hi : 0 ≤ i ∧ i < b ∧ b ≤ 32) (kN : CallSpecE (Pan early) Try.prog 31 [at_ 0 0] [src s k] (.mk undef [src s k] []))
include s k w n i b hs hk hi kN
theorem fr_pan_p : go (body (Try.prog) (8) (1) (8) (fun x => []) (lpF) (frF w n i b) ([src s k])) [(4, .dec true), (0, Itm.loop [0, 6] (Out.mk (Xt.pan early) (frOf 38 []) [.own 56 [.string s, .int .i64 k]] []))] = some (Out.mk (Xt.pan early) (frOf 38 []) [.own 56 [.string s, .int .i64 k]] [], true, [decide (i < b) = true, CodeSpec Try.prog 1 rgField (frOf 38 [(0, (zPA 0)), (6, .int .i64 n)]) [.own 56 [.string s, .int .i64 k]] (Out.mk (Xt.pan early) (frOf 38 []) [.own 56 [.string s, .int .i64 k]] [])]) := by kernel_rfl
theorem fr_pan (R : Out) (k_p : Out.le (Out.mk (Xt.pan early) (frOf 38 []) [.own 56 [.string s, .int .i64 k]] []) R) : CodeSpec (Try.prog) (1) (lpF) (frF w n i b) ([src s k]) R := by
  exact (CodeSpec.id (go_ok (body_ok tnamed tcalm tmixed _ _ _ _ _ _ lpF_calm) (fr_pan_p s k w n i b hs hk hi kN ) (aC dO (aC ((reg_pan kN)) aN)))).le (k_p )
end
section
variable (s : ByteArray) (k w n i b : Int) (hi : b ≤ i)
include s k w n i b hi
theorem fr_end_p : go (body (Try.prog) (8) (1) (8) (fun x => [0, 1, 5, 6, 7]) (lpF) (frF w n i b) ([src s k])) [(4, .dec false)] = some (Out.mk (Xt.exit 0) (frOf 38 [(0, (zPA 0)), (1, .int .i64 w), (5, .int .i64 b), (6, .int .i64 n), (7, .int .i64 i)]) [.own 56 [.string s, .int .i64 k]] [], true, [decide (i < b) = false]) := by kernel_rfl
theorem fr_end (R : Out) (k_p : Out.le (Out.mk (Xt.exit 0) (frOf 38 [(0, (zPA 0)), (1, .int .i64 w), (5, .int .i64 b), (6, .int .i64 n), (7, .int .i64 i)]) [.own 56 [.string s, .int .i64 k]] []) R) : CodeSpec (Try.prog) (1) (lpF) (frF w n i b) ([src s k]) R := by
  exact (CodeSpec.id (go_ok (body_ok tnamed tcalm tmixed _ _ _ _ _ _ lpF_calm) (fr_end_p s k w n i b hi ) (aC dN aN))).le (k_p )
end
end Go.Proofs.Ytbolppjlaipfjaa.Ex
end
section
set_option linter.unusedSectionVars false
set_option linter.unusedSimpArgs false
set_option linter.unusedVariables false
namespace Go.Proofs.Ytbolppjlaipfjaa.Ex
open Go
set_option linter.unusedVariables false
theorem res_refl {r : Res} : Res.le r r := ⟨rfl, rfl, fun j hj => hj⟩
theorem out_refl {r : Out} : Out.le r r := ⟨rfl, rfl, rfl, fun j hj => hj⟩
def bt (s : ByteArray) (k : Nat) : Nat := (s.data.toList.getD k 0).toNat
theorem bt_lt (s : ByteArray) (k : Nat) : bt s k < 256 := UInt8.toNat_lt _
theorem next_done {s : ByteArray} {k : Nat} (hs : s.size ≤ 140737488351232) (hk : k < s.size) : CallSpec Try.prog 31 [at_ 0 0] [src s k] ⟨.int .u8 (bt s k : Nat), [src s (k + 1 : Nat)], [0]⟩ := by
  refine next_ok s k hs ⟨by omega, by omega⟩ _ ?_
  rw [show ((k : Int) + 1 - 1) = (k : Int) by omega, Int.toNat_natCast]
  exact res_refl
theorem next_short {s : ByteArray} {k : Nat} (hs : s.size ≤ 140737488351232) (hk : s.size ≤ k) : CallSpecE (Pan early) Try.prog 31 [at_ 0 0] [src s k] ⟨undef, [src s k], []⟩ :=
  callE_of_code (fr' := frOf 32 []) Try.func31 (c := cNext) (by kernel_rfl) (by decide) (next_pan s k hs (by omega) _ out_refl)
def leN (s : ByteArray) (k : Nat) : Nat → Nat
  | 0 => 0
  | j + 1 => leN s k j + bt s (k + j) * 256 ^ j
theorem leN_lt (s : ByteArray) (k : Nat) : ∀ j, leN s k j < 256 ^ j
  | 0 => Nat.one_pos
  | j + 1 => by
    have h1 := leN_lt s k j
    have h2 := bt_lt s (k + j)
    rw [leN, Nat.pow_succ]
    have h3 : bt s (k + j) * 256 ^ j ≤ 255 * 256 ^ j := Nat.mul_le_mul_right _ (by omega)
    omega
theorem bor_add64 {k a b : Nat} (ha : a < 2 ^ k) (h : 2 ^ k * b + a < 9223372036854775808) : F.bor .i64 (a : Int) ((2 ^ k * b : Nat) : Int) = ((2 ^ k * b + a : Nat) : Int) := by
  unfold F.bor
  rw [BitVec.ofInt_natCast, BitVec.ofInt_natCast, BitVec.toNat_or, BitVec.toNat_ofNat, BitVec.toNat_ofNat]
  have e : (2 : Nat) ^ IntKind.bits .i64 = 18446744073709551616 := rfl
  rw [e, Nat.mod_eq_of_lt (by omega), Nat.mod_eq_of_lt (by omega), Nat.or_comm, ← Nat.two_pow_add_eq_or_of_lt ha]
  exact Go.IntWalk.i64_in _ (by omega)
theorem le_step (s : ByteArray) (k : Nat) : ∀ j, j ≤ 3 → F.bor .i64 (leN s k j : Nat) (IntKind.wrap .i64 (IntKind.wrap .i64 ((bt s (k + j) : Nat) : Int) * 2 ^ min (Int.toNat ((8 * j : Nat) : Int)) 64)) = ((leN s k (j + 1) : Nat) : Int) := by
  intro j hj
  have h1 := leN_lt s k j
  have h2 := bt_lt s (k + j)
  have e : (256 : Nat) ^ j = 2 ^ (8 * j) := by rw [Nat.pow_mul]
  rw [Int.toNat_natCast, show min (8 * j) 64 = 8 * j by omega, Go.IntWalk.i64_in ((bt s (k + j) : Nat) : Int) (by omega)]
  have hb : (2 : Nat) ^ (8 * j) ≤ 2 ^ 24 := Nat.pow_le_pow_right (by omega) (by omega)
  have h5 : bt s (k + j) * 2 ^ (8 * j) ≤ 255 * 2 ^ 24 := Nat.mul_le_mul (by omega) hb
  have h6 : 2 ^ (8 * j) * bt s (k + j) ≤ 255 * 2 ^ 24 := by rw [Nat.mul_comm]; exact h5
  have e3 : ((bt s (k + j) : Nat) : Int) * 2 ^ (8 * j) = ((2 ^ (8 * j) * bt s (k + j) : Nat) : Int) := by
    push_cast
    exact Int.mul_comm _ _
  rw [e3, Go.IntWalk.i64_in _ (by omega), bor_add64 (by rw [← e]; exact h1) (by rw [e] at h1; omega), leN, e]
  congr 1
  rw [Nat.mul_comm]
  omega
noncomputable def lpFC : Code := .loop lpF
theorem fld_loop (s : ByteArray) (k B : Nat) (w : Int) (hs : s.size ≤ 140737488351232) (hB : B ≤ 4) : ∀ d j, j + d = B → k + B ≤ s.size →
    LoopSpec Try.prog 1 lpF (frF w (leN s k j : Nat) (8 * j : Nat) (8 * B : Nat)) [src s (k + j : Nat)] ⟨.exit 0, frF w (leN s k B : Nat) (8 * B : Nat) (8 * B : Nat), [src s (k + B : Nat)], [0]⟩
  | 0, j, hj, hk => by
    obtain rfl : j = B := by omega
    exact .last (fr_end s _ _ _ _ _ (by omega) _ ⟨rfl, rfl, rfl, fun j hj => by cases hj⟩) (by intro h; cases h)
  | d + 1, j, hj, hk => by
    refine .more (o1 := ⟨.normal, frF w (leN s k (j + 1) : Nat) (8 * (j + 1) : Nat) (8 * B : Nat), [src s (k + (j + 1) : Nat)], [0]⟩) (fr_ok s (k + j : Nat) _ _ _ _ hs ⟨by omega, by omega⟩ ⟨by omega, by omega, by omega⟩ _ ?_) rfl (fld_loop s k B w hs hB d (j + 1) (by omega) hk) (fun j hj _ => hj)
    rw [show (((k + j : Nat) : Int) + 1 - 1) = ((k + j : Nat) : Int) by omega, Int.toNat_natCast]
    have h := le_step s k j (by omega)
    unfold bt at h
    rw [h]
    refine ⟨rfl, ?_, ?_, fun j hj => hj⟩
    · show frOf 38 _ = frOf 38 _
      rw [show (((8 * j : Nat) : Int) + 8) = ((8 * (j + 1) : Nat) : Int) by omega]
      rfl
    · show [Blk.own 56 _] = [Blk.own 56 _]
      rw [show (((k + j : Nat) : Int) + 1) = ((k + (j + 1) : Nat) : Int) by omega]
theorem fld_short (s : ByteArray) (B : Nat) (w : Int) (hs : s.size ≤ 140737488351232) (hB : B ≤ 4) : ∀ d j k (n : Int), j + d = B → k ≤ s.size → s.size < k + d →
    LoopSpec Try.prog 1 lpF (frF w n (8 * j : Nat) (8 * B : Nat)) [src s (k : Nat)] ⟨.pan early, frOf 38 [], [src s (s.size : Nat)], [0]⟩
  | 0, j, k, n, hj, hk, h => by omega
  | d + 1, j, k, n, hj, hk, h => by
    by_cases he : k = s.size
    · subst he
      exact .last (fr_pan s _ _ _ _ _ hs (by omega) ⟨by omega, by omega, by omega⟩ (next_short hs (Nat.le_refl _)) _ ⟨rfl, rfl, rfl, fun j hj => by cases hj⟩) (by intro h; cases h)
    · refine .more (o1 := ⟨.normal, frF w (F.bor IntKind.i64 n (IntKind.wrap IntKind.i64 (IntKind.wrap IntKind.i64 (↑(UInt8.toNat (List.getD (Array.toList (ByteArray.data s)) (Int.toNat ((k : Int) + 1 - 1)) 0)) : Int) * 2 ^ min (Int.toNat ((8 * j : Nat) : Int)) 64))) (8 * (j + 1) : Nat) (8 * B : Nat), [src s (k + 1 : Nat)], [0]⟩) (fr_ok s k _ _ _ _ hs ⟨by omega, by omega⟩ ⟨by omega, by omega, by omega⟩ _ ?_) rfl (fld_short s B w hs hB d (j + 1) (k + 1) _ (by omega) (by omega) (by omega)) (fun j hj _ => hj)
      refine ⟨rfl, ?_, rfl, fun j hj => hj⟩
      show frOf 38 _ = frOf 38 _
      rw [show (((8 * j : Nat) : Int) + 8) = ((8 * (j + 1) : Nat) : Int) by omega]
      rfl
end Go.Proofs.Ytbolppjlaipfjaa.Ex
end
section
set_option linter.unusedSectionVars false
set_option linter.unusedSimpArgs false
set_option linter.unusedVariables false
namespace Go.Proofs.Ytbolppjlaipfjaa.Ex
open Go
set_option linter.unusedVariables false
noncomputable def cField : Code := bodyOf Try.prog 32
theorem cField_calm : calmC cField = true := bodyOf_calm tcalm 32
section
variable (s : ByteArray) (k n : Int) (hn : 0 ≤ n ∧ n < 256) (kL : CodeSpec Try.prog 1 lpFC (frF 8 0 0 8) [src s k] (Out.mk (Xt.exit 0) (frF 8 n 8 8) [src s (k + 1)] [0]))
include s k n hn kL
theorem field_8_p : go (exec (Try.prog) (8) (32) ([at_ 0 0, .int .i64 8]) ([src s k])) [(13, Itm.loop [0, 1, 5, 6, 7] (Out.mk (Xt.exit 0) (frOf 38 [(0, (zPA 0)), (1, .int .i64 8), (5, .int .i64 8), (6, .int .i64 n), (7, .int .i64 8)]) [.own 56 [.string s, .int .i64 (k + 1)]] [0]))] = some (.mk (.int .i64 n) [.own 56 [.string s, .int .i64 (k + 1)]] [0], true, [type_of% kL]) := by kernel_rfl
theorem field_8 (R : Res) (k_p : Res.le (.mk (.int .i64 n) [.own 56 [.string s, .int .i64 (k + 1)]] [0]) R) : CallSpec (Try.prog) (32) ([at_ 0 0, .int .i64 8]) ([src s k]) R := by
  exact (CallSpec.id (go_ok (exec_ok tnamed tcalm tmixed _ _ _ _) (field_8_p s k n hn kL ) (aC (kL) aN))).le (k_p )
end
section
variable (s : ByteArray) (k : Int) (kL : CodeSpec Try.prog 1 lpFC (frF 8 0 0 8) [src s k] (Out.mk (Xt.pan early) (frOf 38 []) [src s (↑(ByteArray.size s) : Int)] [0]))
include s k kL
theorem fieldp_8_p : go (body (Try.prog) (8) (1) (8) (fun x => []) (cField) (frOf 38 [(0, at_ 0 0), (1, .int .i64 8)]) ([src s k])) [(12, Itm.loop [0, 1, 5, 6, 7] (Out.mk (Xt.pan early) (frOf 38 []) [.own 56 [.string s, .int .i64 (↑(ByteArray.size s) : Int)]] [0]))] = some (Out.mk (Xt.pan early) (frOf 38 []) [.own 56 [.string s, .int .i64 (↑(ByteArray.size s) : Int)]] [0], true, [type_of% kL]) := by kernel_rfl
theorem fieldp_8 (R : Out) (k_p : Out.le (Out.mk (Xt.pan early) (frOf 38 []) [.own 56 [.string s, .int .i64 (↑(ByteArray.size s) : Int)]] [0]) R) : CodeSpec (Try.prog) (1) (cField) (frOf 38 [(0, at_ 0 0), (1, .int .i64 8)]) ([src s k]) R := by
  exact (CodeSpec.id (go_ok (body_ok tnamed tcalm tmixed _ _ _ _ _ _ cField_calm) (fieldp_8_p s k kL ) (aC (kL) aN))).le (k_p )
end
section
variable (s : ByteArray) (k n : Int) (hn : 0 ≤ n ∧ n < 65536) (kL : CodeSpec Try.prog 1 lpFC (frF 16 0 0 16) [src s k] (Out.mk (Xt.exit 0) (frF 16 n 16 16) [src s (k + 2)] [0]))
include s k n hn kL
theorem field_16_p : go (exec (Try.prog) (8) (32) ([at_ 0 0, .int .i64 16]) ([src s k])) [(13, Itm.loop [0, 1, 5, 6, 7] (Out.mk (Xt.exit 0) (frOf 38 [(0, (zPA 0)), (1, .int .i64 16), (5, .int .i64 16), (6, .int .i64 n), (7, .int .i64 16)]) [.own 56 [.string s, .int .i64 (k + 2)]] [0]))] = some (.mk (.int .i64 n) [.own 56 [.string s, .int .i64 (k + 2)]] [0], true, [type_of% kL]) := by kernel_rfl
theorem field_16 (R : Res) (k_p : Res.le (.mk (.int .i64 n) [.own 56 [.string s, .int .i64 (k + 2)]] [0]) R) : CallSpec (Try.prog) (32) ([at_ 0 0, .int .i64 16]) ([src s k]) R := by
  exact (CallSpec.id (go_ok (exec_ok tnamed tcalm tmixed _ _ _ _) (field_16_p s k n hn kL ) (aC (kL) aN))).le (k_p )
end
section
variable (s : ByteArray) (k : Int) (kL : CodeSpec Try.prog 1 lpFC (frF 16 0 0 16) [src s k] (Out.mk (Xt.pan early) (frOf 38 []) [src s (↑(ByteArray.size s) : Int)] [0]))
include s k kL
theorem fieldp_16_p : go (body (Try.prog) (8) (1) (8) (fun x => []) (cField) (frOf 38 [(0, at_ 0 0), (1, .int .i64 16)]) ([src s k])) [(12, Itm.loop [0, 1, 5, 6, 7] (Out.mk (Xt.pan early) (frOf 38 []) [.own 56 [.string s, .int .i64 (↑(ByteArray.size s) : Int)]] [0]))] = some (Out.mk (Xt.pan early) (frOf 38 []) [.own 56 [.string s, .int .i64 (↑(ByteArray.size s) : Int)]] [0], true, [type_of% kL]) := by kernel_rfl
theorem fieldp_16 (R : Out) (k_p : Out.le (Out.mk (Xt.pan early) (frOf 38 []) [.own 56 [.string s, .int .i64 (↑(ByteArray.size s) : Int)]] [0]) R) : CodeSpec (Try.prog) (1) (cField) (frOf 38 [(0, at_ 0 0), (1, .int .i64 16)]) ([src s k]) R := by
  exact (CodeSpec.id (go_ok (body_ok tnamed tcalm tmixed _ _ _ _ _ _ cField_calm) (fieldp_16_p s k kL ) (aC (kL) aN))).le (k_p )
end
section
variable (s : ByteArray) (k n : Int) (hn : 0 ≤ n ∧ n < 65536) (kL : CodeSpec Try.prog 1 lpFC (frF (-16) 0 0 16) [src s k] (Out.mk (Xt.exit 0) (frF (-16) n 16 16) [src s (k + 2)] [0]))
include s k n hn kL
theorem field_m16_pt : go (exec (Try.prog) (8) (32) ([at_ 0 0, .int .i64 (-16)]) ([src s k])) [(13, Itm.loop [0, 1, 5, 6, 7] (Out.mk (Xt.exit 0) (frOf 38 [(0, (zPA 0)), (1, .int .i64 (-16)), (5, .int .i64 16), (6, .int .i64 n), (7, .int .i64 16)]) [.own 56 [.string s, .int .i64 (k + 2)]] [0])), (11, Itm.val (.int .i64 (n / 32768))), (5, .dec true), (4, Itm.val (.int .i64 (n - 65536)))] = some (.mk (.int .i64 (n - 65536)) [.own 56 [.string s, .int .i64 (k + 2)]] [0], true, [type_of% kL, Value.int .i64 (Int.fdiv n 32768) = .int .i64 (n / 32768), decide (n / 32768 = 1) = true, Value.int .i64 (IntKind.wrap .i64 (n - 65536)) = .int .i64 (n - 65536)]) := by kernel_rfl
theorem field_m16_pf : go (exec (Try.prog) (8) (32) ([at_ 0 0, .int .i64 (-16)]) ([src s k])) [(13, Itm.loop [0, 1, 5, 6, 7] (Out.mk (Xt.exit 0) (frOf 38 [(0, (zPA 0)), (1, .int .i64 (-16)), (5, .int .i64 16), (6, .int .i64 n), (7, .int .i64 16)]) [.own 56 [.string s, .int .i64 (k + 2)]] [0])), (11, Itm.val (.int .i64 (n / 32768))), (5, .dec false)] = some (.mk (.int .i64 n) [.own 56 [.string s, .int .i64 (k + 2)]] [0], true, [type_of% kL, Value.int .i64 (Int.fdiv n 32768) = .int .i64 (n / 32768), decide (n / 32768 = 1) = false]) := by kernel_rfl
theorem field_m16 (R : Res) (k_pt : (h0 : n / 32768 = 1) → Res.le (.mk (.int .i64 (n - 65536)) [.own 56 [.string s, .int .i64 (k + 2)]] [0]) R) (k_pf : (h0 : ¬ (n / 32768 = 1)) → Res.le (.mk (.int .i64 n) [.own 56 [.string s, .int .i64 (k + 2)]] [0]) R) : CallSpec (Try.prog) (32) ([at_ 0 0, .int .i64 (-16)]) ([src s k]) R := by
  by_cases h0 : n / 32768 = 1
  · exact (CallSpec.id (go_ok (exec_ok tnamed tcalm tmixed _ _ _ _) (field_m16_pt s k n hn kL ) (aC (kL) (aC (congrArg (Value.int _) (Int.fdiv_eq_ediv_of_nonneg _ (by omega))) (aC (dTq h0) (aC (congrArg (Value.int _) (Go.IntWalk.i64_in _ (by omega))) aN)))))).le (k_pt h0)
  · exact (CallSpec.id (go_ok (exec_ok tnamed tcalm tmixed _ _ _ _) (field_m16_pf s k n hn kL ) (aC (kL) (aC (congrArg (Value.int _) (Int.fdiv_eq_ediv_of_nonneg _ (by omega))) (aC (dFq h0) aN))))).le (k_pf h0)
end
section
variable (s : ByteArray) (k : Int) (kL : CodeSpec Try.prog 1 lpFC (frF (-16) 0 0 16) [src s k] (Out.mk (Xt.pan early) (frOf 38 []) [src s (↑(ByteArray.size s) : Int)] [0]))
include s k kL
theorem fieldp_m16_p : go (body (Try.prog) (8) (1) (8) (fun x => []) (cField) (frOf 38 [(0, at_ 0 0), (1, .int .i64 (-16))]) ([src s k])) [(12, Itm.loop [0, 1, 5, 6, 7] (Out.mk (Xt.pan early) (frOf 38 []) [.own 56 [.string s, .int .i64 (↑(ByteArray.size s) : Int)]] [0]))] = some (Out.mk (Xt.pan early) (frOf 38 []) [.own 56 [.string s, .int .i64 (↑(ByteArray.size s) : Int)]] [0], true, [type_of% kL]) := by kernel_rfl
theorem fieldp_m16 (R : Out) (k_p : Out.le (Out.mk (Xt.pan early) (frOf 38 []) [.own 56 [.string s, .int .i64 (↑(ByteArray.size s) : Int)]] [0]) R) : CodeSpec (Try.prog) (1) (cField) (frOf 38 [(0, at_ 0 0), (1, .int .i64 (-16))]) ([src s k]) R := by
  exact (CodeSpec.id (go_ok (body_ok tnamed tcalm tmixed _ _ _ _ _ _ cField_calm) (fieldp_m16_p s k kL ) (aC (kL) aN))).le (k_p )
end
section
variable (s : ByteArray) (k n : Int) (hn : 0 ≤ n ∧ n < 4294967296) (kL : CodeSpec Try.prog 1 lpFC (frF (-32) 0 0 32) [src s k] (Out.mk (Xt.exit 0) (frF (-32) n 32 32) [src s (k + 4)] [0]))
include s k n hn kL
theorem field_m32_pt : go (exec (Try.prog) (8) (32) ([at_ 0 0, .int .i64 (-32)]) ([src s k])) [(13, Itm.loop [0, 1, 5, 6, 7] (Out.mk (Xt.exit 0) (frOf 38 [(0, (zPA 0)), (1, .int .i64 (-32)), (5, .int .i64 32), (6, .int .i64 n), (7, .int .i64 32)]) [.own 56 [.string s, .int .i64 (k + 4)]] [0])), (11, Itm.val (.int .i64 (n / 2147483648))), (5, .dec true), (4, Itm.val (.int .i64 (n - 4294967296)))] = some (.mk (.int .i64 (n - 4294967296)) [.own 56 [.string s, .int .i64 (k + 4)]] [0], true, [type_of% kL, Value.int .i64 (Int.fdiv n 2147483648) = .int .i64 (n / 2147483648), decide (n / 2147483648 = 1) = true, Value.int .i64 (IntKind.wrap .i64 (n - 4294967296)) = .int .i64 (n - 4294967296)]) := by kernel_rfl
theorem field_m32_pf : go (exec (Try.prog) (8) (32) ([at_ 0 0, .int .i64 (-32)]) ([src s k])) [(13, Itm.loop [0, 1, 5, 6, 7] (Out.mk (Xt.exit 0) (frOf 38 [(0, (zPA 0)), (1, .int .i64 (-32)), (5, .int .i64 32), (6, .int .i64 n), (7, .int .i64 32)]) [.own 56 [.string s, .int .i64 (k + 4)]] [0])), (11, Itm.val (.int .i64 (n / 2147483648))), (5, .dec false)] = some (.mk (.int .i64 n) [.own 56 [.string s, .int .i64 (k + 4)]] [0], true, [type_of% kL, Value.int .i64 (Int.fdiv n 2147483648) = .int .i64 (n / 2147483648), decide (n / 2147483648 = 1) = false]) := by kernel_rfl
theorem field_m32 (R : Res) (k_pt : (h0 : n / 2147483648 = 1) → Res.le (.mk (.int .i64 (n - 4294967296)) [.own 56 [.string s, .int .i64 (k + 4)]] [0]) R) (k_pf : (h0 : ¬ (n / 2147483648 = 1)) → Res.le (.mk (.int .i64 n) [.own 56 [.string s, .int .i64 (k + 4)]] [0]) R) : CallSpec (Try.prog) (32) ([at_ 0 0, .int .i64 (-32)]) ([src s k]) R := by
  by_cases h0 : n / 2147483648 = 1
  · exact (CallSpec.id (go_ok (exec_ok tnamed tcalm tmixed _ _ _ _) (field_m32_pt s k n hn kL ) (aC (kL) (aC (congrArg (Value.int _) (Int.fdiv_eq_ediv_of_nonneg _ (by omega))) (aC (dTq h0) (aC (congrArg (Value.int _) (Go.IntWalk.i64_in _ (by omega))) aN)))))).le (k_pt h0)
  · exact (CallSpec.id (go_ok (exec_ok tnamed tcalm tmixed _ _ _ _) (field_m32_pf s k n hn kL ) (aC (kL) (aC (congrArg (Value.int _) (Int.fdiv_eq_ediv_of_nonneg _ (by omega))) (aC (dFq h0) aN))))).le (k_pf h0)
end
section
variable (s : ByteArray) (k : Int) (kL : CodeSpec Try.prog 1 lpFC (frF (-32) 0 0 32) [src s k] (Out.mk (Xt.pan early) (frOf 38 []) [src s (↑(ByteArray.size s) : Int)] [0]))
include s k kL
theorem fieldp_m32_p : go (body (Try.prog) (8) (1) (8) (fun x => []) (cField) (frOf 38 [(0, at_ 0 0), (1, .int .i64 (-32))]) ([src s k])) [(12, Itm.loop [0, 1, 5, 6, 7] (Out.mk (Xt.pan early) (frOf 38 []) [.own 56 [.string s, .int .i64 (↑(ByteArray.size s) : Int)]] [0]))] = some (Out.mk (Xt.pan early) (frOf 38 []) [.own 56 [.string s, .int .i64 (↑(ByteArray.size s) : Int)]] [0], true, [type_of% kL]) := by kernel_rfl
theorem fieldp_m32 (R : Out) (k_p : Out.le (Out.mk (Xt.pan early) (frOf 38 []) [.own 56 [.string s, .int .i64 (↑(ByteArray.size s) : Int)]] [0]) R) : CodeSpec (Try.prog) (1) (cField) (frOf 38 [(0, at_ 0 0), (1, .int .i64 (-32))]) ([src s k]) R := by
  exact (CodeSpec.id (go_ok (body_ok tnamed tcalm tmixed _ _ _ _ _ _ cField_calm) (fieldp_m32_p s k kL ) (aC (kL) aN))).le (k_p )
end
end Go.Proofs.Ytbolppjlaipfjaa.Ex
end
section
set_option linter.unusedSectionVars false
set_option linter.unusedSimpArgs false
set_option linter.unusedVariables false
namespace Go.Proofs.Ytbolppjlaipfjaa.Ex
open Go
set_option linter.unusedVariables false
def wB (w : Int) : Nat := w.natAbs / 8
def okW (w : Int) : Prop := w = 8 ∨ w = 16 ∨ w = -16 ∨ w = -32
def fV (w : Int) (s : ByteArray) (k : Nat) : Int := if w < 0 ∧ 256 ^ wB w ≤ 2 * leN s k (wB w) then (leN s k (wB w) : Int) - 256 ^ wB w else leN s k (wB w)
theorem field_done {w : Int} {s : ByteArray} {k : Nat} (hw : okW w) (hs : s.size ≤ 140737488351232) (hk : k + wB w ≤ s.size) : CallSpec Try.prog 32 [at_ 0 0, .int .i64 w] [src s k] ⟨.int .i64 (fV w s k), [src s (k + wB w : Nat)], [0]⟩ := by
  rcases hw with rfl | rfl | rfl | rfl
  · have h := leN_lt s k 1
    exact field_8 s k (leN s k 1 : Nat) ⟨by omega, by omega⟩ (fld_loop s k 1 8 hs (by omega) 1 0 rfl hk).code _ res_refl
  · have h := leN_lt s k 2
    exact field_16 s k (leN s k 2 : Nat) ⟨by omega, by omega⟩ (fld_loop s k 2 16 hs (by omega) 2 0 rfl hk).code _ res_refl
  · have h := leN_lt s k 2
    refine field_m16 s k (leN s k 2 : Nat) ⟨by omega, by omega⟩ (fld_loop s k 2 (-16) hs (by omega) 2 0 rfl hk).code _ (fun h0 => ?_) (fun h0 => ?_)
    · have e : fV (-16) s k = (leN s k 2 : Int) - 65536 := by
        unfold fV
        rw [show wB (-16) = 2 from rfl, if_pos ⟨by decide, by omega⟩]
        rfl
      rw [e]
      exact res_refl
    · have e : fV (-16) s k = (leN s k 2 : Int) := by
        unfold fV
        rw [show wB (-16) = 2 from rfl, if_neg (by omega)]
      rw [e]
      exact res_refl
  · have h := leN_lt s k 4
    refine field_m32 s k (leN s k 4 : Nat) ⟨by omega, by omega⟩ (fld_loop s k 4 (-32) hs (by omega) 4 0 rfl hk).code _ (fun h0 => ?_) (fun h0 => ?_)
    · have e : fV (-32) s k = (leN s k 4 : Int) - 4294967296 := by
        unfold fV
        rw [show wB (-32) = 4 from rfl, if_pos ⟨by decide, by omega⟩]
        rfl
      rw [e]
      exact res_refl
    · have e : fV (-32) s k = (leN s k 4 : Int) := by
        unfold fV
        rw [show wB (-32) = 4 from rfl, if_neg (by omega)]
      rw [e]
      exact res_refl
theorem field_short {w : Int} {s : ByteArray} {k : Nat} (hw : okW w) (hs : s.size ≤ 140737488351232) (hk : k ≤ s.size) (h : s.size < k + wB w) : CallSpecE (Pan early) Try.prog 32 [at_ 0 0, .int .i64 w] [src s k] ⟨undef, [src s (s.size : Nat)], [0]⟩ := by
  rcases hw with rfl | rfl | rfl | rfl
  · exact callE_of_code (fr' := frOf 38 []) Try.func32 (c := cField) (by kernel_rfl) (by decide) (fieldp_8 s k (fld_short s 1 8 hs (by omega) 1 0 k 0 rfl hk h).code _ out_refl)
  · exact callE_of_code (fr' := frOf 38 []) Try.func32 (c := cField) (by kernel_rfl) (by decide) (fieldp_16 s k (fld_short s 2 16 hs (by omega) 2 0 k 0 rfl hk h).code _ out_refl)
  · exact callE_of_code (fr' := frOf 38 []) Try.func32 (c := cField) (by kernel_rfl) (by decide) (fieldp_m16 s k (fld_short s 2 (-16) hs (by omega) 2 0 k 0 rfl hk h).code _ out_refl)
  · exact callE_of_code (fr' := frOf 38 []) Try.func32 (c := cField) (by kernel_rfl) (by decide) (fieldp_m32 s k (fld_short s 4 (-32) hs (by omega) 4 0 k 0 rfl hk h).code _ out_refl)
end Go.Proofs.Ytbolppjlaipfjaa.Ex
end
section
set_option linter.unusedSectionVars false
set_option linter.unusedSimpArgs false
set_option linter.unusedVariables false
namespace Go.Proofs.Ytbolppjlaipfjaa.Ex
open Go
set_option linter.unusedVariables false
noncomputable def lpW : Code := loopAt Try.prog 22 0
theorem lpW_calm : calmC lpW = true := loopAt_calm tcalm 22 0
abbrev slB (b n c : Nat) : Value := .slice (some ⟨b, 0, none⟩) n c
abbrev slN : Value := .slice none 0 0
def frW (sn : Int) (s : ByteArray) (n : Nat) (i : Int) : Fr := frOf 58 [(0, .int .u8 sn), (1, .string s), (4, at_ 0 0), (5, at_ 1 0), (6, at_ 2 0), (7, at_ 3 0), (20, slB 4 n n), (21, .int .i64 n), (22, .int .i64 i)]
def hpW0 (s : ByteArray) (k : Int) (cs : List Value) : Hp := [.own 22 [slN], .own 3 [.int .i64 0], .own 4 [.bool false], src s k, .own 3 cs]
def hpW1 (s : ByteArray) (k : Int) (cs : List Value) (vs : List Value) (j : Nat) : Hp := [.own 22 [slB 5 j j], .own 3 [.int .i64 0], .own 4 [.bool false], src s k, .own 3 cs, .own 3 vs]
def kW : List Nat := [0, 1, 4, 5, 6, 7, 20, 21, 22]
section
variable (s : ByteArray) (sn k k' v w : Int) (n i : Nat) (cs : List Value) (hcs : List.length cs = n) (hi : i < n ∧ n ≤ 5) (hv0 : isInt .i64 (List.getD cs (0 + Int.toNat (↑i : Int) * 1) undef) = true) (hv : Value.int .i64 (intOf (List.getD cs (0 + Int.toNat (↑i : Int) * 1) undef)) = .int .i64 w) (kF : CallSpec Try.prog 32 [at_ 0 0, .int .i64 w] [src s k] (.mk (.int .i64 v) [src s k'] [0]))
include s sn k k' v w n i cs hcs hi hv0 hv kF
theorem w0_ok_p : go (body (Try.prog) (8) (3) (8) (fun x => kW) (lpW) (frW sn s n (↑i : Int)) (hpW0 s k cs)) [(2, .dec true), (0, Itm.must), (1, Itm.must), (0, Itm.must), (0, Itm.val (.int .i64 w)), (6, .call (.mk (.int .i64 v) [.own 56 [.string s, .int .i64 k']] [0])), (17, Itm.val (.int .i64 ((↑i : Int) + 1)))] = some (Out.mk Xt.normal (frOf 58 [(0, .int .u8 sn), (1, .string s), (4, (zPA 0)), (5, (zPA 1)), (6, (zPA 2)), (7, (zPA 3)), (20, (zSB 4 n n)), (21, .int .i64 (↑n : Int)), (22, .int .i64 ((↑i : Int) + 1))]) [.own 22 [(zSB 5 1 1)], .own 3 [.int .i64 0], .own 4 [.bool false], .own 56 [.string s, .int .i64 k'], .own 3 cs, .own 3 [.int .i64 v]] [0], true, [decide ((↑i : Int) < (↑n : Int)) = true, inside (↑i : Int) n = true, decide (0 + Int.toNat (↑i : Int) * 1 < List.length cs) = true, isInt .i64 (List.getD cs (0 + Int.toNat (↑i : Int) * 1) undef) = true, type_of% hv, type_of% kF, Value.int .i64 (IntKind.wrap .i64 ((↑i : Int) + 1)) = .int .i64 ((↑i : Int) + 1)]) := by kernel_rfl
theorem w0_ok (R : Out) (k_p : Out.le (Out.mk Xt.normal (frOf 58 [(0, .int .u8 sn), (1, .string s), (4, (zPA 0)), (5, (zPA 1)), (6, (zPA 2)), (7, (zPA 3)), (20, (zSB 4 n n)), (21, .int .i64 (↑n : Int)), (22, .int .i64 ((↑i : Int) + 1))]) [.own 22 [(zSB 5 1 1)], .own 3 [.int .i64 0], .own 4 [.bool false], .own 56 [.string s, .int .i64 k'], .own 3 cs, .own 3 [.int .i64 v]] [0]) R) : CodeSpec (Try.prog) (3) (lpW) (frW sn s n (↑i : Int)) (hpW0 s k cs) R := by
  exact (CodeSpec.id (go_ok (body_ok tnamed tcalm tmixed _ _ _ _ _ _ lpW_calm) (w0_ok_p s sn k k' v w n i cs hcs hi hv0 hv kF ) (aC dO (aC (inside_of (by omega)) (aC dO (aC ((by omega)) (aC (hv) (aC (kF) (aC (congrArg (Value.int _) (Go.IntWalk.i64_in _ (by omega))) aN))))))))).le (k_p )
end
section
variable (s : ByteArray) (sn k k' v w : Int) (n i j : Nat) (cs vs : List Value) (hcs : List.length cs = n) (hvs : List.length vs = j) (hi : i < n ∧ n ≤ 5 ∧ 1 ≤ j ∧ j ≤ 5) (hv0 : isInt .i64 (List.getD cs (0 + Int.toNat (↑i : Int) * 1) undef) = true) (hv : Value.int .i64 (intOf (List.getD cs (0 + Int.toNat (↑i : Int) * 1) undef)) = .int .i64 w) (kF : CallSpec Try.prog 32 [at_ 0 0, .int .i64 w] [src s k] (.mk (.int .i64 v) [src s k'] [0]))
include s sn k k' v w n i j cs vs hcs hvs hi hv0 hv kF
theorem w1_ok_p : go (body (Try.prog) (8) (3) (8) (fun x => kW) (lpW) (frW sn s n (↑i : Int)) (hpW1 s k cs vs j)) [(2, .dec true), (0, Itm.must), (1, Itm.must), (0, Itm.must), (0, Itm.val (.int .i64 w)), (6, .call (.mk (.int .i64 v) [.own 56 [.string s, .int .i64 k']] [0])), (9, Itm.must), (0, .dec false), (0, Itm.must), (6, Itm.val (.int .i64 ((↑i : Int) + 1)))] = some (Out.mk Xt.normal (frOf 58 [(0, .int .u8 sn), (1, .string s), (4, (zPA 0)), (5, (zPA 1)), (6, (zPA 2)), (7, (zPA 3)), (20, (zSB 4 n n)), (21, .int .i64 (↑n : Int)), (22, .int .i64 ((↑i : Int) + 1))]) [.own 22 [(zSB 5 (j + 1) (j + 1))], .own 3 [.int .i64 0], .own 4 [.bool false], .own 56 [.string s, .int .i64 k'], .own 3 cs, .own 3 (vs ++ [.int .i64 v])] [0], true, [decide ((↑i : Int) < (↑n : Int)) = true, inside (↑i : Int) n = true, decide (0 + Int.toNat (↑i : Int) * 1 < List.length cs) = true, isInt .i64 (List.getD cs (0 + Int.toNat (↑i : Int) * 1) undef) = true, type_of% hv, type_of% kF, (true && decide ((j + 1) * 8 ≤ 140737488355328) && decide (j + 1 ≤ 140737488355328) && decide (j * 1 ≤ List.length vs)) = true, decide (j + 1 ≤ j) = false, decide (List.length vs = j * 1) = true, Value.int .i64 (IntKind.wrap .i64 ((↑i : Int) + 1)) = .int .i64 ((↑i : Int) + 1)]) := by kernel_rfl
theorem w1_ok (R : Out) (k_p : Out.le (Out.mk Xt.normal (frOf 58 [(0, .int .u8 sn), (1, .string s), (4, (zPA 0)), (5, (zPA 1)), (6, (zPA 2)), (7, (zPA 3)), (20, (zSB 4 n n)), (21, .int .i64 (↑n : Int)), (22, .int .i64 ((↑i : Int) + 1))]) [.own 22 [(zSB 5 (j + 1) (j + 1))], .own 3 [.int .i64 0], .own 4 [.bool false], .own 56 [.string s, .int .i64 k'], .own 3 cs, .own 3 (vs ++ [.int .i64 v])] [0]) R) : CodeSpec (Try.prog) (3) (lpW) (frW sn s n (↑i : Int)) (hpW1 s k cs vs j) R := by
  exact (CodeSpec.id (go_ok (body_ok tnamed tcalm tmixed _ _ _ _ _ _ lpW_calm) (w1_ok_p s sn k k' v w n i j cs vs hcs hvs hi hv0 hv kF ) (aC dO (aC (inside_of (by omega)) (aC dO (aC ((by omega)) (aC (hv) (aC (kF) (aC ((by simp [ByteArray.size_append, ByteArray.size_extract, sz_mk] <;> omega)) (aC dN (aC dO (aC (congrArg (Value.int _) (Go.IntWalk.i64_in _ (by omega))) aN)))))))))))).le (k_p )
end
section
variable (s : ByteArray) (sn k : Int) (n j : Nat) (cs vs : List Value) (hcs : List.length cs = n) (hvs : List.length vs = j)
include s sn k n j cs vs hcs hvs
theorem w1_end_p : go (body (Try.prog) (8) (3) (8) (fun x => kW) (lpW) (frW sn s n (↑n : Int)) (hpW1 s k cs vs j)) [(2, .dec false)] = some (Out.mk (Xt.exit 0) (frOf 58 [(0, .int .u8 sn), (1, .string s), (4, (zPA 0)), (5, (zPA 1)), (6, (zPA 2)), (7, (zPA 3)), (20, (zSB 4 n n)), (21, .int .i64 (↑n : Int)), (22, .int .i64 (↑n : Int))]) [.own 22 [(zSB 5 j j)], .own 3 [.int .i64 0], .own 4 [.bool false], .own 56 [.string s, .int .i64 k], .own 3 cs, .own 3 vs] [], true, [decide ((↑n : Int) < (↑n : Int)) = false]) := by kernel_rfl
theorem w1_end (R : Out) (k_p : Out.le (Out.mk (Xt.exit 0) (frOf 58 [(0, .int .u8 sn), (1, .string s), (4, (zPA 0)), (5, (zPA 1)), (6, (zPA 2)), (7, (zPA 3)), (20, (zSB 4 n n)), (21, .int .i64 (↑n : Int)), (22, .int .i64 (↑n : Int))]) [.own 22 [(zSB 5 j j)], .own 3 [.int .i64 0], .own 4 [.bool false], .own 56 [.string s, .int .i64 k], .own 3 cs, .own 3 vs] []) R) : CodeSpec (Try.prog) (3) (lpW) (frW sn s n (↑n : Int)) (hpW1 s k cs vs j) R := by
  exact (CodeSpec.id (go_ok (body_ok tnamed tcalm tmixed _ _ _ _ _ _ lpW_calm) (w1_end_p s sn k n j cs vs hcs hvs ) (aC dN aN))).le (k_p )
end
end Go.Proofs.Ytbolppjlaipfjaa.Ex
end
section
set_option linter.unusedSectionVars false
set_option linter.unusedSimpArgs false
set_option linter.unusedVariables false
namespace Go.Proofs.Ytbolppjlaipfjaa.Ex
open Go
set_option linter.unusedVariables false
set_option linter.unusedSimpArgs false
noncomputable def rg8 : Code := regAt Try.prog 22 8
theorem FrRel.free {ν : Nu} {fr : Fr} {a : Act} {d : Option Tmp} {v : Value} (h : FrRel ν fr a.tmps) (hd : ∀ t, d = some t → fr.get t = none) : FrRel ν fr (a.put d v).tmps := by
  cases d with
  | none => exact h
  | some d =>
    refine ⟨by simp [Act.put, h.1], fun t u hu => ?_⟩
    have hne : d ≠ t := fun e => by rw [← e, hd d rfl] at hu; cases hu
    obtain ⟨u', h1, h2⟩ := h.2 t u hu
    exact ⟨u', by simp only [Act.put]; rw [Array.getElem?_setIfInBounds_ne hne]; exact h1, h2⟩
theorem FrRel.unput {ν : Nu} {fr : Fr} {a : Act} {d : Option Tmp} {v : Value} (h : FrRel ν fr (a.put d v).tmps) (hd : ∀ t, d = some t → fr.get t = none) : FrRel ν fr a.tmps := by
  cases d with
  | none => exact h
  | some d =>
    refine ⟨by have := h.1; simpa [Act.put] using this, fun t u hu => ?_⟩
    have hne : d ≠ t := fun e => by rw [← e, hd d rfl] at hu; cases hu
    obtain ⟨u', h1, h2⟩ := h.2 t u hu
    exact ⟨u', by simp only [Act.put] at h1; rw [Array.getElem?_setIfInBounds_ne hne] at h1; exact h1, h2⟩
theorem rg8_eq : rg8 = .region 8 (opsOf rg8) true := by kernel_rfl
theorem rg8_size : (opsOf rg8).size = 7 := by kernel_rfl
theorem Inv.drawn {P : Program} {w0 : World} {ν0 : Nu} {m : Nat} {ν : Nu} {hp : Hp} {wr : List Nat} {w : World} (hi : Inv P w0 ν0 m ν hp wr w) : Inv P w0 ν0 m ν hp wr { w with drawn := w.drawn + 1 } :=
  ⟨⟨hi.rep.dom, fun id => (hi.rep.blk id).le (Le.refl _) (fun _ _ _ => rfl) (Nat.le_refl _), hi.rep.sep⟩, hi.len, hi.same, hi.os, hi.tape, hi.output, hi.size, hi.frame, hi.fresh⟩
theorem rg8_pan {m : Nat} {fr : Fr} {hp : Hp} {r : Res} {u p q : Value} {g : Bool} (h26 : fr.get 26 = none) (h27 : fr.get 27 = none) (h28 : fr.get 28 = none) (hn : fr.n = 58)
    (hp7 : fr.get 7 = some p) (hp9 : fr.get 9 = some q)
    (hL : OpOk Try.prog (List.range hp.length ++ footA Try.prog fr hp (opOf rg8 0)) fr hp (opOf rg8 0) ⟨u, hp, []⟩)
    (hC : CallOkE (Pan early) Try.prog (List.range hp.length) 32 [p, q] hp r) : CodeSpec Try.prog m rg8 fr hp ⟨.pan early, fr, r.hp, r.wr⟩ := by
  intro w0 ν0 ν wr act W Q hi hfr hQ
  let Q0 : Exit → Act → World → Prop := fun e a' w' => e = .panic early ∧ a'.defers = act.defers ∧ ∃ ν', Inv Try.prog w0 ν0 m ν' r.hp (r.wr ++ wr) w' ∧ FrRel ν' fr a'.tmps
  suffices H : rg8.wp Try.prog Q0 act W from wp_mono H fun e a' w' ⟨e1, e2, ν', k1, k2⟩ => by subst e1; exact hQ ν' a' w' k1 k2 e2
  have hd : ∀ (i : Nat) (o : Oper), (i = 0 ∨ i = 1 ∨ i = 2) → opOf rg8 i = o → ∀ t, o.dst = some t → fr.get t = none := by
    intro i o hi2 ho t ht
    subst ho
    rcases hi2 with rfl | rfl | rfl
    · have e : (opOf rg8 0).dst = some 26 := by kernel_rfl
      rw [e] at ht; cases ht; exact h26
    · have e : (opOf rg8 1).dst = some 27 := by kernel_rfl
      rw [e] at ht; cases ht; exact h27
    · have e : (opOf rg8 2).dst = some 28 := by kernel_rfl
      rw [e] at ht; cases ht; exact h28
  have hQ0 : ∀ (i : Nat), (i = 0 ∨ i = 1 ∨ i = 2) → ∀ c (a : Act) (w : World) (v : Value), Q0 (.panic c) (a.put (opOf rg8 i).dst v) w → Q0 (.panic c) a w := by
    intro i hi2 c a w v ⟨e1, e2, ν', k1, k2⟩
    exact ⟨e1, by rw [← e2]; cases (opOf rg8 i).dst <;> rfl, ν', k1, k2.unput (hd i _ hi2 rfl)⟩
  obtain ⟨p', e7, v7⟩ := hfr.2 7 p hp7
  obtain ⟨q', e9, v9⟩ := hfr.2 9 q hp9
  -- the operations
  have o1 : (opOf rg8 1).op = .move (.tmp 7) := by kernel_rfl
  have o2 : (opOf rg8 2).op = .move (.tmp 9) := by kernel_rfl
  have o3 : (opOf rg8 3).op = .call { callee := .value (.func 32), args := #[.tmp 27, .tmp 28], argTypes := #[54, 3] } := by kernel_rfl
  have d0 : (opOf rg8 0).dst = some 26 := by kernel_rfl
  have d1 : (opOf rg8 1).dst = some 27 := by kernel_rfl
  have d2 : (opOf rg8 2).dst = some 28 := by kernel_rfl
  have n0 : (opOf rg8 0).guard = none := by kernel_rfl
  have n1 : (opOf rg8 1).guard = none := by kernel_rfl
  have n2 : (opOf rg8 2).guard = none := by kernel_rfl
  have n3 : (opOf rg8 3).guard = none := by kernel_rfl
  have hsz : act.tmps.size = 58 := by rw [← hfr.1, hn]
  -- where the call stands
  have last : ∀ (ν2 : Nu) (a : Act) (w : World) K, Le ν ν2 → a.defers = act.defers → FrRel ν2 fr a.tmps → Inv Try.prog w0 ν0 m ν2 hp wr w → a.tmps[27]? = some p' → a.tmps[28]? = some q' → wpOp Try.prog (opsOf rg8) Q0 3 K a w := by
    intro ν2 a w K hle ha hf hv t27 t28
    unfold wpOp
    rw [show (opsOf rg8)[3]? = some (opOf rg8 3) by kernel_rfl]
    dsimp only
    rw [if_pos (by simp [Region.wanted, n3])]
    refine .inl ?_
    have x27 : a.eval (.tmp 27) = p' := by simp [Act.eval, t27]
    have x28 : a.eval (.tmp 28) = q' := by simp [Act.eval, t28]
    have hrun : (execOp a.eval (opOf rg8 3)).run Try.prog w = .ok (.enter 32 #[p', q']) w := by
      simp [execOp, o3, resolve, Deferred.ofValue, invoke, x27, x28, callFunc_run tnamed (show bodied Try.prog 32 = true by kernel_rfl)]
      rw [show a.eval (.func 32) = .func (.func 32) #[] #[] from rfl]
      simp [Deferred.ofValue, invoke, callFunc_run tnamed (show bodied Try.prog 32 = true by kernel_rfl)]
    unfold Oper.wp
    rw [hrun, Oper.upon_enter]
    refine (hC.2 ν2 w [p', q'] (.cons (v7.le hle) (.cons (v9.le hle) .nil)) (hv.rep.pre _)).mono fun e w' hE => ?_
    obtain ⟨v', ν', hend, _, hpost⟩ := hE
    cases hend
    exact ⟨rfl, ha, ν', hv.step hC.1 (fun id hid => List.mem_range.2 hid) hpost, hf.le (Post.le (hv.rep.pre _) hpost)⟩
  rw [rg8_eq]
  refine wp_region_any tmixed ?_
  rw [rg8_size]
  have y1 : Yields Try.prog (opsOf rg8) (opOf rg8 1) p' act := .inl ⟨by simp [Region.wanted, n1], fun w => by simp [execOp, o1, Act.eval, e7]⟩
  refine wpAny_take (i := 1) (oi := opOf rg8 1) (v := p') (by kernel_rfl) (by kernel_rfl) (by kernel_rfl) (by kernel_rfl) (fun c a w h => hQ0 1 (.inr (.inl rfl)) c a w p' h) y1 ?_
  have f1 : FrRel ν fr (act.put (opOf rg8 1).dst p').tmps := hfr.free (hd 1 _ (.inr (.inl rfl)) rfl)
  have g1 : (act.put (opOf rg8 1).dst p').tmps[27]? = some p' := by rw [d1]; simp [Act.put, hsz]
  have k1 : (act.put (opOf rg8 1).dst p').defers = act.defers := put_defers
  have s1 : (act.put (opOf rg8 1).dst p').tmps.size = 58 := by rw [put_size, hsz]
  have e9' : (act.put (opOf rg8 1).dst p').tmps[9]? = some q' := by rw [d1]; simp only [Act.put]; rw [Array.getElem?_setIfInBounds_ne (by decide)]; exact e9
  generalize act.put (opOf rg8 1).dst p' = a1 at f1 g1 k1 s1 e9'
  have y2 : Yields Try.prog (opsOf rg8) (opOf rg8 2) q' a1 := .inl ⟨by simp [Region.wanted, n2], fun w => by simp [execOp, o2, Act.eval, e9']⟩
  refine wpAny_take (i := 2) (oi := opOf rg8 2) (v := q') (by kernel_rfl) (by kernel_rfl) (by kernel_rfl) (by kernel_rfl) (fun c a w h => hQ0 2 (.inr (.inr rfl)) c a w q' h) y2 ?_
  have f2 : FrRel ν fr (a1.put (opOf rg8 2).dst q').tmps := f1.free (hd 2 _ (.inr (.inr rfl)) rfl)
  have g2 : (a1.put (opOf rg8 2).dst q').tmps[28]? = some q' := by rw [d2]; simp [Act.put, s1]
  have g2' : (a1.put (opOf rg8 2).dst q').tmps[27]? = some p' := by rw [d2]; simp only [Act.put]; rw [Array.getElem?_setIfInBounds_ne (by decide)]; exact g1
  have k2 : (a1.put (opOf rg8 2).dst q').defers = act.defers := put_defers.trans k1
  generalize a1.put (opOf rg8 2).dst q' = a2 at f2 g2 g2' k2
  have hi' := hi.drawn
  generalize ({ W with drawn := W.drawn + 1 } : World) = W' at hi'
  refine wpAny_all (rs := [0, 3]) (by kernel_rfl) (by decide) fun i hmem => ?_
  rcases List.mem_cons.1 hmem with rfl | hmem
  · unfold wpOp
    rw [show (opsOf rg8)[0]? = some (opOf rg8 0) by kernel_rfl]
    dsimp only
    rw [if_pos (by simp [Region.wanted, n0])]
    refine .inl (hL.2 ν a2 W' (fun x _ v hv => val_eval f2 hv) (hi'.rep.pre _) _ _ fun ν' v' w' hpost hv' => ?_)
    have hi2 := hi'.step hL.1 (fun id hid => List.mem_append.2 (.inl (List.mem_range.2 hid))) hpost
    have hle := Post.le (hi'.rep.pre _) hpost
    have k3 : (a2.put (opOf rg8 0).dst v').defers = act.defers := put_defers.trans k2
    have f3 : FrRel ν' fr (a2.put (opOf rg8 0).dst v').tmps := (f2.le hle).free (hd 0 _ (.inl rfl) rfl)
    have g3 : (a2.put (opOf rg8 0).dst v').tmps[28]? = some q' := by rw [d0]; simp only [Act.put]; rw [Array.getElem?_setIfInBounds_ne (by decide)]; exact g2
    have g3' : (a2.put (opOf rg8 0).dst v').tmps[27]? = some p' := by rw [d0]; simp only [Act.put]; rw [Array.getElem?_setIfInBounds_ne (by decide)]; exact g2'
    refine wpAny_all (rs := [3]) (by kernel_rfl) (by decide) fun i hm => ?_
    obtain rfl := List.mem_singleton.1 hm
    exact last ν' _ w' _ hle k3 f3 hi2 g3' g3
  · obtain rfl := List.mem_singleton.1 hmem
    exact last ν a2 W' _ (Le.refl _) k2 f2 hi' g2' g2
end Go.Proofs.Ytbolppjlaipfjaa.Ex
end
section
set_option linter.unusedSectionVars false
set_option linter.unusedSimpArgs false
set_option linter.unusedVariables false
namespace Go.Proofs.Ytbolppjlaipfjaa.Ex
open Go
set_option linter.unusedVariables false
set_option linter.unusedSimpArgs false
def frP (w : Int) : Fr := frOf 58 [(4, at_ 0 0), (5, at_ 1 0), (6, at_ 2 0), (7, at_ 3 0), (9, .int .i64 w)]
def hpP0 (s : ByteArray) (k : Int) : Hp := [.own 22 [slN], .own 3 [.int .i64 0], .own 4 [.bool false], src s k]
def hpP1 (s : ByteArray) (k : Int) (vs : List Value) (j : Nat) : Hp := [.own 22 [slB 4 j j], .own 3 [.int .i64 0], .own 4 [.bool false], src s k, .own 3 vs]
abbrev shortF (s : ByteArray) (k w : Int) : Prop := CallSpecE (Pan early) Try.prog 32 [at_ 0 0, .int .i64 w] [src s k] ⟨undef, [src s (s.size : Nat)], [0]⟩
abbrev shortN (s : ByteArray) (k : Int) : Prop := CallSpecE (Pan early) Try.prog 31 [at_ 0 0] [src s k] ⟨undef, [src s k], []⟩
theorem cl0_run (s : ByteArray) (k w : Int) : go (callA Try.prog (toldE (Pan early) Try.prog ⟨undef, [src s (s.size : Nat)], [0]⟩) 32 [at_ 3 0, .int .i64 w] (hpP0 s k)) [] = some (⟨undef, hpP0 s (s.size : Nat), [3]⟩, true, [shortF s k w]) := by kernel_rfl
theorem cl1_run (s : ByteArray) (k w : Int) (vs : List Value) (j : Nat) : go (callA Try.prog (toldE (Pan early) Try.prog ⟨undef, [src s (s.size : Nat)], [0]⟩) 32 [at_ 3 0, .int .i64 w] (hpP1 s k vs j)) [] = some (⟨undef, hpP1 s (s.size : Nat) vs j, [3]⟩, true, [shortF s k w]) := by kernel_rfl
theorem ld0_run (s : ByteArray) (k w : Int) : go (opS Try.prog (callA Try.prog (toldA Try.prog (exec Try.prog 8))) (frP w) (hpP0 s k) (opOf rg8 0)) [] = some (⟨slN, hpP0 s k, []⟩, true, []) := by kernel_rfl
theorem ld1_run (s : ByteArray) (k w : Int) (vs : List Value) (j : Nat) : go (opS Try.prog (callA Try.prog (toldA Try.prog (exec Try.prog 8))) (frP w) (hpP1 s k vs j) (opOf rg8 0)) [] = some (⟨slB 4 j j, hpP1 s k vs j, []⟩, true, []) := by kernel_rfl
theorem sound8 : Sound Try.prog (callA Try.prog (toldA Try.prog (exec Try.prog 8))) := by
  have told : ∀ g args hp, Sat (toldA Try.prog (exec Try.prog 8) g args hp) (CallSpec Try.prog g args hp) := by
    intro g args hp o r he hg
    unfold toldA at he
    split at he
    · cases he
      exact hg.2 _ (by simp)
    · cases he
    · exact exec_ok tnamed tcalm tmixed 8 g args hp _ _ he hg
    · exact exec_ok tnamed tcalm tmixed 8 g args hp _ _ he hg
  exact fun F g args hp hF => call_sat (fun args hp => told g args hp) hF
theorem rg8_0 {s : ByteArray} {k w : Int} (h : shortF s k w) : CodeSpec Try.prog 3 rg8 (frP w) (hpP0 s k) ⟨.pan early, frP w, hpP0 s (s.size : Nat), [3]⟩ :=
  rg8_pan (r := ⟨undef, hpP0 s (s.size : Nat), [3]⟩) (u := slN) (g := true) rfl rfl rfl rfl rfl rfl
    (go_ok (opS_sat tnamed (fun g args hids => sound8 _ g args _ hids) fun id hid => List.mem_append.2 (.inr hid)) (ld0_run s k w) aN)
    (go_ok (call_satE (E := Pan early) (fun args hp => toldE_sat) fun id hid => by
      have e : argIds Try.prog (hpP0 s k) [at_ 3 0, .int .i64 w] = [3] := by kernel_rfl
      rw [e, List.mem_singleton] at hid
      subst hid
      show (3 : Nat) ∈ List.range 4
      decide) (cl0_run s k w) (aC h aN))
theorem rg8_1 {s : ByteArray} {k w : Int} {vs : List Value} {j : Nat} (h : shortF s k w) : CodeSpec Try.prog 3 rg8 (frP w) (hpP1 s k vs j) ⟨.pan early, frP w, hpP1 s (s.size : Nat) vs j, [3]⟩ :=
  rg8_pan (r := ⟨undef, hpP1 s (s.size : Nat) vs j, [3]⟩) (u := slB 4 j j) (g := true) rfl rfl rfl rfl rfl rfl
    (go_ok (opS_sat tnamed (fun g args hids => sound8 _ g args _ hids) fun id hid => List.mem_append.2 (.inr hid)) (ld1_run s k w vs j) aN)
    (go_ok (call_satE (E := Pan early) (fun args hp => toldE_sat) fun id hid => by
      have e : argIds Try.prog (hpP1 s k vs j) [at_ 3 0, .int .i64 w] = [3] := by kernel_rfl
      rw [e, List.mem_singleton] at hid
      subst hid
      show (3 : Nat) ∈ List.range 5
      decide) (cl1_run s k w vs j) (aC h aN))
section
variable (s : ByteArray) (sn k w : Int) (n i : Nat) (cs : List Value) (hcs : List.length cs = n) (hi : i < n ∧ n ≤ 5) (hv0 : isInt .i64 (List.getD cs (0 + Int.toNat (↑i : Int) * 1) undef) = true) (hv : Value.int .i64 (intOf (List.getD cs (0 + Int.toNat (↑i : Int) * 1) undef)) = .int .i64 w) (kF : shortF s k w)
include s sn k w n i cs hcs hi hv0 hv kF
theorem w0_pan_p : go (body (Try.prog) (8) (3) (8) (fun x => [4, 5, 6]) (lpW) (frW sn s n (↑i : Int)) (hpW0 s k cs)) [(2, .dec true), (0, Itm.must), (1, Itm.must), (0, Itm.must), (0, Itm.val (.int .i64 w)), (2, Itm.loop [4, 5, 6, 7, 9] (Out.mk (Xt.pan early) (frOf 58 [(4, (zPA 0)), (5, (zPA 1)), (6, (zPA 2)), (7, (zPA 3)), (9, .int .i64 w)]) [.own 22 [zSN], .own 3 [.int .i64 0], .own 4 [.bool false], .own 56 [.string s, .int .i64 (↑(ByteArray.size s) : Int)]] [3]))] = some (Out.mk (Xt.pan early) (frOf 58 [(4, (zPA 0)), (5, (zPA 1)), (6, (zPA 2))]) [.own 22 [zSN], .own 3 [.int .i64 0], .own 4 [.bool false]] [], true, [decide ((↑i : Int) < (↑n : Int)) = true, inside (↑i : Int) n = true, decide (0 + Int.toNat (↑i : Int) * 1 < List.length cs) = true, isInt .i64 (List.getD cs (0 + Int.toNat (↑i : Int) * 1) undef) = true, type_of% hv, CodeSpec Try.prog 3 rg8 (frOf 58 [(4, (zPA 0)), (5, (zPA 1)), (6, (zPA 2)), (7, (zPA 3)), (9, .int .i64 w)]) [.own 22 [zSN], .own 3 [.int .i64 0], .own 4 [.bool false], .own 56 [.string s, .int .i64 k]] (Out.mk (Xt.pan early) (frOf 58 [(4, (zPA 0)), (5, (zPA 1)), (6, (zPA 2)), (7, (zPA 3)), (9, .int .i64 w)]) [.own 22 [zSN], .own 3 [.int .i64 0], .own 4 [.bool false], .own 56 [.string s, .int .i64 (↑(ByteArray.size s) : Int)]] [3])]) := by kernel_rfl
theorem w0_pan (R : Out) (k_p : Out.le (Out.mk (Xt.pan early) (frOf 58 [(4, (zPA 0)), (5, (zPA 1)), (6, (zPA 2))]) [.own 22 [zSN], .own 3 [.int .i64 0], .own 4 [.bool false]] []) R) : CodeSpec (Try.prog) (3) (lpW) (frW sn s n (↑i : Int)) (hpW0 s k cs) R := by
  exact (CodeSpec.id (go_ok (body_ok tnamed tcalm tmixed _ _ _ _ _ _ lpW_calm) (w0_pan_p s sn k w n i cs hcs hi hv0 hv kF ) (aC dO (aC (inside_of (by omega)) (aC dO (aC ((by omega)) (aC (hv) (aC ((rg8_0 kF)) aN)))))))).le (k_p )
end
section
variable (s : ByteArray) (sn k w : Int) (n i j : Nat) (cs vs : List Value) (hcs : List.length cs = n) (hvs : List.length vs = j) (hi : i < n ∧ n ≤ 5 ∧ 1 ≤ j ∧ j ≤ 5) (hv0 : isInt .i64 (List.getD cs (0 + Int.toNat (↑i : Int) * 1) undef) = true) (hv : Value.int .i64 (intOf (List.getD cs (0 + Int.toNat (↑i : Int) * 1) undef)) = .int .i64 w) (kF : shortF s k w)
include s sn k w n i j cs vs hcs hvs hi hv0 hv kF
theorem w1_pan_p : go (body (Try.prog) (8) (3) (8) (fun x => [4, 5, 6]) (lpW) (frW sn s n (↑i : Int)) (hpW1 s k cs vs j)) [(2, .dec true), (0, Itm.must), (1, Itm.must), (0, Itm.must), (0, Itm.val (.int .i64 w)), (2, Itm.loop [4, 5, 6, 7, 9] (Out.mk (Xt.pan early) (frOf 58 [(4, (zPA 0)), (5, (zPA 1)), (6, (zPA 2)), (7, (zPA 3)), (9, .int .i64 w)]) [.own 22 [(zSB 4 j j)], .own 3 [.int .i64 0], .own 4 [.bool false], .own 56 [.string s, .int .i64 (↑(ByteArray.size s) : Int)], .own 3 vs] [3]))] = some (Out.mk (Xt.pan early) (frOf 58 [(4, (zPA 0)), (5, (zPA 1)), (6, (zPA 2))]) [.own 22 [(zSB 3 j j)], .own 3 [.int .i64 0], .own 4 [.bool false], .own 3 vs] [], true, [decide ((↑i : Int) < (↑n : Int)) = true, inside (↑i : Int) n = true, decide (0 + Int.toNat (↑i : Int) * 1 < List.length cs) = true, isInt .i64 (List.getD cs (0 + Int.toNat (↑i : Int) * 1) undef) = true, type_of% hv, CodeSpec Try.prog 3 rg8 (frOf 58 [(4, (zPA 0)), (5, (zPA 1)), (6, (zPA 2)), (7, (zPA 3)), (9, .int .i64 w)]) [.own 22 [(zSB 4 j j)], .own 3 [.int .i64 0], .own 4 [.bool false], .own 56 [.string s, .int .i64 k], .own 3 vs] (Out.mk (Xt.pan early) (frOf 58 [(4, (zPA 0)), (5, (zPA 1)), (6, (zPA 2)), (7, (zPA 3)), (9, .int .i64 w)]) [.own 22 [(zSB 4 j j)], .own 3 [.int .i64 0], .own 4 [.bool false], .own 56 [.string s, .int .i64 (↑(ByteArray.size s) : Int)], .own 3 vs] [3])]) := by kernel_rfl
theorem w1_pan (R : Out) (k_p : Out.le (Out.mk (Xt.pan early) (frOf 58 [(4, (zPA 0)), (5, (zPA 1)), (6, (zPA 2))]) [.own 22 [(zSB 3 j j)], .own 3 [.int .i64 0], .own 4 [.bool false], .own 3 vs] []) R) : CodeSpec (Try.prog) (3) (lpW) (frW sn s n (↑i : Int)) (hpW1 s k cs vs j) R := by
  exact (CodeSpec.id (go_ok (body_ok tnamed tcalm tmixed _ _ _ _ _ _ lpW_calm) (w1_pan_p s sn k w n i j cs vs hcs hvs hi hv0 hv kF ) (aC dO (aC (inside_of (by omega)) (aC dO (aC ((by omega)) (aC (hv) (aC ((rg8_1 kF)) aN)))))))).le (k_p )
end
end Go.Proofs.Ytbolppjlaipfjaa.Ex
end
section
set_option linter.unusedSectionVars false
set_option linter.unusedSimpArgs false
set_option linter.unusedVariables false
namespace Go.Proofs.Ytbolppjlaipfjaa.Ex
open Go
set_option linter.unusedVariables false
def iW (ws : List Int) : List Value := ws.map fun w => .int .i64 w
theorem iW_len (ws : List Int) : (iW ws).length = ws.length := by unfold iW; rw [List.length_map]
theorem iW_app (a b : List Int) : iW (a ++ b) = iW a ++ iW b := by unfold iW; rw [List.map_append]
theorem iW_at (a b : List Int) (w : Int) : List.getD (iW (a ++ w :: b)) (0 + Int.toNat ((a.length : Nat) : Int) * 1) undef = .int .i64 w := by
  rw [Int.toNat_natCast, iW_app, List.getD_eq_getElem?_getD, List.getElem?_append_right (by rw [iW_len]; omega), iW_len]
  simp [iW]
def rdW : List Int → ByteArray → Nat → List Int
  | [], _, _ => []
  | w :: ws, s, k => fV w s k :: rdW ws s (k + wB w)
def sumW : List Int → Nat
  | [] => 0
  | w :: ws => wB w + sumW ws
theorem rdW_len : ∀ (ws : List Int) (s : ByteArray) (k : Nat), (rdW ws s k).length = ws.length
  | [], _, _ => rfl
  | w :: ws, s, k => by rw [rdW, List.length_cons, List.length_cons, rdW_len ws]
theorem w_loop1 (sn : Int) (s : ByteArray) (hs : s.size ≤ 140737488351232) : ∀ (todo done acc : List Int) (k : Nat), acc.length = done.length → 1 ≤ acc.length → (done ++ todo).length ≤ 5 → (∀ w ∈ todo, okW w) → k + sumW todo ≤ s.size →
    LoopSpec Try.prog 3 lpW (frW sn s (done ++ todo).length (done.length : Nat)) (hpW1 s (k : Nat) (iW (done ++ todo)) (iW acc) acc.length)
      ⟨.exit 0, frW sn s (done ++ todo).length ((done ++ todo).length : Nat), hpW1 s (k + sumW todo : Nat) (iW (done ++ todo)) (iW (acc ++ rdW todo s k)) (acc ++ rdW todo s k).length, [0]⟩
  | [], done, acc, k, ha, h1, h5, hw, hk => by
    rw [rdW, sumW, List.append_nil, List.append_nil]
    exact .last (w1_end s sn k done.length acc.length (iW done) (iW acc) (iW_len _) (iW_len _) _ ⟨rfl, rfl, rfl, fun j hj => by cases hj⟩) (by intro h; cases h)
  | w :: ws, done, acc, k, ha, h1, h5, hw, hk => by
    rw [sumW] at hk
    have hF := field_done (hw w (by simp)) hs (k := k) (by omega)
    have ih := w_loop1 sn s hs ws (done ++ [w]) (acc ++ [fV w s k]) (k + wB w) (by simp [ha]) (by simp) (by simpa using h5) (fun u hu => hw u (by simp [hu])) (by omega)
    have hl : (done ++ w :: ws).length = done.length + 1 + ws.length := by simp; omega
    rw [List.append_assoc, List.singleton_append, List.append_assoc, List.singleton_append] at ih
    rw [rdW, sumW]
    rw [show k + (wB w + sumW ws) = k + wB w + sumW ws by omega]
    refine .more (o1 := ⟨.normal, frW sn s (done ++ w :: ws).length ((done ++ [w]).length : Nat), hpW1 s (k + wB w : Nat) (iW (done ++ w :: ws)) (iW (acc ++ [fV w s k])) (acc ++ [fV w s k]).length, [0]⟩)
      (w1_ok s sn k (k + wB w : Nat) (fV w s k) w (done ++ w :: ws).length done.length acc.length (iW (done ++ w :: ws)) (iW acc) (iW_len _) (iW_len _) ⟨by omega, by omega, by omega, by omega⟩ (by rw [iW_at]; rfl) (by rw [iW_at]; rfl) hF _ ?_) rfl ih (fun j hj _ => hj)
    refine ⟨rfl, ?_, ?_, fun j hj => hj⟩
    · show frOf 58 _ = frOf 58 _
      rw [show (((done ++ [w]).length : Nat) : Int) = (done.length : Int) + 1 by simp]
      rfl
    · show [_, _, _, _, _, _] = [_, _, _, _, _, _]
      rw [iW_app acc [fV w s k], show (acc ++ [fV w s k]).length = acc.length + 1 by simp]
      rfl
theorem w_loop0 (sn : Int) (s : ByteArray) (hs : s.size ≤ 140737488351232) (w : Int) (ws : List Int) (k : Nat) (h5 : (w :: ws).length ≤ 5) (hw : ∀ u ∈ w :: ws, okW u) (hk : k + sumW (w :: ws) ≤ s.size) :
    LoopSpec Try.prog 3 lpW (frW sn s (w :: ws).length 0) (hpW0 s (k : Nat) (iW (w :: ws)))
      ⟨.exit 0, frW sn s (w :: ws).length ((w :: ws).length : Nat), hpW1 s (k + sumW (w :: ws) : Nat) (iW (w :: ws)) (iW (rdW (w :: ws) s k)) (rdW (w :: ws) s k).length, [0]⟩ := by
  rw [sumW] at hk
  have hF := field_done (hw w (by simp)) hs (k := k) (by omega)
  have ih := w_loop1 sn s hs ws [w] [fV w s k] (k + wB w) rfl (Nat.le_refl _) (by simpa using h5) (fun u hu => hw u (by simp [hu])) (by omega)
  rw [rdW, sumW, show k + (wB w + sumW ws) = k + wB w + sumW ws by omega]
  refine .more (o1 := ⟨.normal, frW sn s (w :: ws).length ([w].length : Nat), hpW1 s (k + wB w : Nat) (iW (w :: ws)) (iW [fV w s k]) 1, [0]⟩)
    (w0_ok s sn k (k + wB w : Nat) (fV w s k) w (w :: ws).length 0 (iW (w :: ws)) (iW_len _) ⟨by simp, h5⟩ (by have := iW_at [] ws w; rw [List.nil_append] at this; exact (congrArg (isInt .i64) this).trans rfl) (by have := iW_at [] ws w; rw [List.nil_append] at this; exact congrArg (fun v => Value.int .i64 (intOf v)) this) hF _ ?_) rfl ih (fun j hj _ => hj)
  exact ⟨rfl, rfl, rfl, fun j hj => hj⟩
def endP0 : Out := ⟨.pan early, frOf 58 [(4, at_ 0 0), (5, at_ 1 0), (6, at_ 2 0)], [.own 22 [slN], .own 3 [.int .i64 0], .own 4 [.bool false]], []⟩
def endP1 (vs : List Value) (j : Nat) : Out := ⟨.pan early, frOf 58 [(4, at_ 0 0), (5, at_ 1 0), (6, at_ 2 0)], [.own 22 [slB 3 j j], .own 3 [.int .i64 0], .own 4 [.bool false], .own 3 vs], [0]⟩
theorem w_short1 (sn : Int) (s : ByteArray) (hs : s.size ≤ 140737488351232) : ∀ (todo done acc : List Int) (k : Nat), acc.length = done.length → 1 ≤ acc.length → (done ++ todo).length ≤ 5 → (∀ w ∈ todo, okW w) → k ≤ s.size → s.size < k + sumW todo →
    ∃ vs j, LoopSpec Try.prog 3 lpW (frW sn s (done ++ todo).length (done.length : Nat)) (hpW1 s (k : Nat) (iW (done ++ todo)) (iW acc) acc.length) (endP1 vs j)
  | [], done, acc, k, ha, h1, h5, hw, hk, hk2 => by rw [sumW] at hk2; omega
  | w :: ws, done, acc, k, ha, h1, h5, hw, hk, hk2 => by
    rw [sumW] at hk2
    have hl : (done ++ w :: ws).length = done.length + 1 + ws.length := by simp; omega
    by_cases hc : k + wB w ≤ s.size
    · have hF := field_done (hw w (by simp)) hs (k := k) hc
      obtain ⟨vs, j, ih⟩ := w_short1 sn s hs ws (done ++ [w]) (acc ++ [fV w s k]) (k + wB w) (by simp [ha]) (by simp) (by simpa using h5) (fun u hu => hw u (by simp [hu])) hc (by omega)
      rw [List.append_assoc, List.singleton_append] at ih
      refine ⟨vs, j, .more (o1 := ⟨.normal, frW sn s (done ++ w :: ws).length ((done ++ [w]).length : Nat), hpW1 s (k + wB w : Nat) (iW (done ++ w :: ws)) (iW (acc ++ [fV w s k])) (acc ++ [fV w s k]).length, [0]⟩)
        (w1_ok s sn k (k + wB w : Nat) (fV w s k) w (done ++ w :: ws).length done.length acc.length (iW (done ++ w :: ws)) (iW acc) (iW_len _) (iW_len _) ⟨by omega, by omega, by omega, by omega⟩ (by rw [iW_at]; rfl) (by rw [iW_at]; rfl) hF _ ?_) rfl ih (fun j hj _ => hj)⟩
      refine ⟨rfl, ?_, ?_, fun j hj => hj⟩
      · show frOf 58 _ = frOf 58 _
        rw [show (((done ++ [w]).length : Nat) : Int) = (done.length : Int) + 1 by simp]
        rfl
      · show [_, _, _, _, _, _] = [_, _, _, _, _, _]
        rw [iW_app acc [fV w s k], show (acc ++ [fV w s k]).length = acc.length + 1 by simp]
        rfl
    · have hF := field_short (hw w (by simp)) hs hk (by omega)
      exact ⟨_, _, .last (w1_pan s sn k w (done ++ w :: ws).length done.length acc.length (iW (done ++ w :: ws)) (iW acc) (iW_len _) (iW_len _) ⟨by omega, by omega, by omega, by omega⟩ (by rw [iW_at]; rfl) (by rw [iW_at]; rfl) hF (endP1 (iW acc) acc.length) ⟨rfl, rfl, rfl, fun j hj => by cases hj⟩) (by intro h; cases h)⟩
theorem w_short0 (sn : Int) (s : ByteArray) (hs : s.size ≤ 140737488351232) (w : Int) (ws : List Int) (k : Nat) (h5 : (w :: ws).length ≤ 5) (hw : ∀ u ∈ w :: ws, okW u) (hk : k ≤ s.size) (hk2 : s.size < k + sumW (w :: ws)) :
    LoopSpec Try.prog 3 lpW (frW sn s (w :: ws).length 0) (hpW0 s (k : Nat) (iW (w :: ws))) endP0 ∨ ∃ vs j, LoopSpec Try.prog 3 lpW (frW sn s (w :: ws).length 0) (hpW0 s (k : Nat) (iW (w :: ws))) (endP1 vs j) := by
  rw [sumW] at hk2
  have a0 : List.getD (iW (w :: ws)) (0 + Int.toNat ((0 : Nat) : Int) * 1) undef = .int .i64 w := by have := iW_at [] ws w; rw [List.nil_append] at this; exact this
  by_cases hc : k + wB w ≤ s.size
  · have hF := field_done (hw w (by simp)) hs (k := k) hc
    obtain ⟨vs, j, ih⟩ := w_short1 sn s hs ws [w] [fV w s k] (k + wB w) rfl (Nat.le_refl _) (by simpa using h5) (fun u hu => hw u (by simp [hu])) hc (by omega)
    refine .inr ⟨vs, j, .more (o1 := ⟨.normal, frW sn s (w :: ws).length ([w].length : Nat), hpW1 s (k + wB w : Nat) (iW (w :: ws)) (iW [fV w s k]) 1, [0]⟩)
      (w0_ok s sn k (k + wB w : Nat) (fV w s k) w (w :: ws).length 0 (iW (w :: ws)) (iW_len _) ⟨by simp, h5⟩ ((congrArg (isInt .i64) a0).trans rfl) (congrArg (fun v => Value.int .i64 (intOf v)) a0) hF _ ⟨rfl, rfl, rfl, fun j hj => hj⟩) rfl ih (fun j hj _ => hj)⟩
  · have hF := field_short (hw w (by simp)) hs hk (by omega)
    exact .inl (.last (w0_pan s sn k w (w :: ws).length 0 (iW (w :: ws)) (iW_len _) ⟨by simp, h5⟩ ((congrArg (isInt .i64) a0).trans rfl) (congrArg (fun v => Value.int .i64 (intOf v)) a0) hF endP0 ⟨rfl, rfl, rfl, fun j hj => hj⟩) (by intro h; cases h))
end Go.Proofs.Ytbolppjlaipfjaa.Ex
end
section
set_option linter.unusedSectionVars false
set_option linter.unusedSimpArgs false
set_option linter.unusedVariables false
namespace Go.Proofs.Ytbolppjlaipfjaa.Ex
open Go
set_option linter.unusedVariables false
noncomputable def lpWC : Code := .loop lpW
noncomputable def rg3 : Code := regAt Try.prog 22 3
noncomputable def rg11 : Code := regAt Try.prog 22 11
def restOf : Code → Code
  | .seq _ (.seq _ c) => c
  | _ => .skip
noncomputable def cRest : Code := restOf (bodyOf Try.prog 22)
theorem cRest_calm : calmC cRest = true := by
  have h := bodyOf_calm tcalm 22
  unfold cRest
  revert h
  generalize bodyOf Try.prog 22 = c
  intro h
  unfold restOf
  split
  · simp only [calmC, Bool.and_eq_true] at h
    exact h.2.2
  · rfl
def frR (sn : Int) (s : ByteArray) : Fr := frOf 58 [(0, .int .u8 sn), (1, .string s), (4, at_ 0 0), (5, at_ 1 0), (6, at_ 2 0)]
def hpR : Hp := [.own 22 [slN], .own 3 [.int .i64 0], .own 4 [.bool false]]
def frQ0 : Fr := frOf 58 [(4, at_ 0 0), (5, at_ 1 0), (6, at_ 2 0), (7, at_ 3 0)]
def frQ1 (c : Int) : Fr := frOf 58 [(4, at_ 0 0), (5, at_ 1 0), (6, at_ 2 0), (7, at_ 3 0), (10, .int .u16 c)]
theorem rg3_run (s : ByteArray) (k : Int) : go (regPan Try.prog (callA Try.prog (toldA Try.prog (exec Try.prog 8))) early ⟨undef, [src s k], []⟩ 1 [4, 5, 6, 7] 3 rg3 frQ0 (hpP0 s k)) [] = some (⟨.pan early, frQ0, hpP0 s k, []⟩, true, [shortN s k]) := by kernel_rfl
theorem rg3_pan {s : ByteArray} {k : Int} (h : shortN s k) : CodeSpec Try.prog 3 rg3 frQ0 (hpP0 s k) ⟨.pan early, frQ0, hpP0 s k, []⟩ := go_ok (regPan_ok tnamed tcalm tmixed) (rg3_run s k) (aC h aN)
theorem rg11a_run (s : ByteArray) (k c : Int) (vs : List Value) (j : Nat) : go (regPan Try.prog (callA Try.prog (toldA Try.prog (exec Try.prog 8))) early ⟨undef, [src s k], []⟩ 1 [4, 5, 6, 7, 10] 3 rg11 (frQ1 c) (hpP1 s k vs j)) [] = some (⟨.pan early, frQ1 c, hpP1 s k vs j, []⟩, true, [shortN s k]) := by kernel_rfl
theorem rg11a_pan {s : ByteArray} {k c : Int} {vs : List Value} {j : Nat} (h : shortN s k) : CodeSpec Try.prog 3 rg11 (frQ1 c) (hpP1 s k vs j) ⟨.pan early, frQ1 c, hpP1 s k vs j, []⟩ := go_ok (regPan_ok tnamed tcalm tmixed) (rg11a_run s k c vs j) (aC h aN)
section
variable (s : ByteArray) (sn : Int) (hs : ByteArray.size s ≤ 140737488351232) (kN : shortN s 0)
include s sn hs kN
theorem rest_e_p : go (body (Try.prog) (8) (3) (8) (fun x => [4, 5, 6]) (cRest) (frR sn s) (hpR)) [(11, Itm.loop [4, 5, 6, 7] (Out.mk (Xt.pan early) (frOf 58 [(4, (zPA 0)), (5, (zPA 1)), (6, (zPA 2)), (7, (zPA 3))]) [.own 22 [zSN], .own 3 [.int .i64 0], .own 4 [.bool false], .own 56 [.string s, .int .i64 0]] []))] = some (Out.mk (Xt.pan early) (frOf 58 [(4, (zPA 0)), (5, (zPA 1)), (6, (zPA 2))]) [.own 22 [zSN], .own 3 [.int .i64 0], .own 4 [.bool false]] [], true, [CodeSpec Try.prog 3 rg3 (frOf 58 [(4, (zPA 0)), (5, (zPA 1)), (6, (zPA 2)), (7, (zPA 3))]) [.own 22 [zSN], .own 3 [.int .i64 0], .own 4 [.bool false], .own 56 [.string s, .int .i64 0]] (Out.mk (Xt.pan early) (frOf 58 [(4, (zPA 0)), (5, (zPA 1)), (6, (zPA 2)), (7, (zPA 3))]) [.own 22 [zSN], .own 3 [.int .i64 0], .own 4 [.bool false], .own 56 [.string s, .int .i64 0]] [])]) := by kernel_rfl
theorem rest_e (R : Out) (k_p : Out.le (Out.mk (Xt.pan early) (frOf 58 [(4, (zPA 0)), (5, (zPA 1)), (6, (zPA 2))]) [.own 22 [zSN], .own 3 [.int .i64 0], .own 4 [.bool false]] []) R) : CodeSpec (Try.prog) (3) (cRest) (frR sn s) (hpR) R := by
  exact (CodeSpec.id (go_ok (body_ok tnamed tcalm tmixed _ _ _ _ _ _ cRest_calm) (rest_e_p s sn hs kN ) (aC ((rg3_pan kN)) aN))).le (k_p )
end
section
variable (s : ByteArray) (sn : Int) (n : Nat) (cs : List Value) (hs : 1 ≤ ByteArray.size s ∧ ByteArray.size s ≤ 140737488351232) (hcs : List.length cs = n) (hW : CallSpec Try.prog 20 [.int .u8 sn] [] (.mk (slB 0 n n) [.own 3 cs] [])) (kL : CodeSpec Try.prog 3 lpWC (frW sn s n 0) (hpW0 s 1 cs) endP0)
include s sn n cs hs hcs hW kL
theorem rest_p0_pt : go (body (Try.prog) (8) (3) (8) (fun x => [4, 5, 6]) (cRest) (frR sn s) (hpR)) [(31, .dec false), (27, Itm.must), (9, .dec true)] = some (Out.mk Xt.ret (frOf 58 [(4, (zPA 0)), (5, (zPA 1)), (6, (zPA 2))]) [.own 22 [zSN], .own 3 [.int .i64 0], .own 4 [.bool false]] [2, 1, 0], true, [decide (0 ≥ (↑(ByteArray.size s) : Int)) = false, inside 0 (ByteArray.size s) = true, (!decide ((↑(UInt8.toNat (List.getD (Array.toList (ByteArray.data s)) 0 0)) : Int) = sn)) = true]) := by kernel_rfl
theorem rest_p0_pf : go (body (Try.prog) (8) (3) (8) (fun x => [4, 5, 6]) (cRest) (frR sn s) (hpR)) [(31, .dec false), (27, Itm.must), (9, .dec false), (1, .call (.mk ((zSB 0 n n)) [.own 3 cs] [])), (5, Itm.loop [0, 1, 4, 5, 6, 7, 20, 21, 22] (Out.mk (Xt.pan early) (frOf 58 [(4, (zPA 0)), (5, (zPA 1)), (6, (zPA 2))]) [.own 22 [zSN], .own 3 [.int .i64 0], .own 4 [.bool false]] []))] = some (Out.mk (Xt.pan early) (frOf 58 [(4, (zPA 0)), (5, (zPA 1)), (6, (zPA 2))]) [.own 22 [zSN], .own 3 [.int .i64 0], .own 4 [.bool false]] [], true, [decide (0 ≥ (↑(ByteArray.size s) : Int)) = false, inside 0 (ByteArray.size s) = true, (!decide ((↑(UInt8.toNat (List.getD (Array.toList (ByteArray.data s)) 0 0)) : Int) = sn)) = false, type_of% hW, type_of% kL]) := by kernel_rfl
theorem rest_p0 (R : Out) (k_pt : (h0 : ¬(↑(UInt8.toNat (List.getD (Array.toList (ByteArray.data s)) 0 0)) : Int) = sn) → Out.le (Out.mk Xt.ret (frOf 58 [(4, (zPA 0)), (5, (zPA 1)), (6, (zPA 2))]) [.own 22 [zSN], .own 3 [.int .i64 0], .own 4 [.bool false]] [2, 1, 0]) R) (k_pf : (h0 : ¬ (¬(↑(UInt8.toNat (List.getD (Array.toList (ByteArray.data s)) 0 0)) : Int) = sn)) → Out.le (Out.mk (Xt.pan early) (frOf 58 [(4, (zPA 0)), (5, (zPA 1)), (6, (zPA 2))]) [.own 22 [zSN], .own 3 [.int .i64 0], .own 4 [.bool false]] []) R) : CodeSpec (Try.prog) (3) (cRest) (frR sn s) (hpR) R := by
  by_cases h0 : ¬(↑(UInt8.toNat (List.getD (Array.toList (ByteArray.data s)) 0 0)) : Int) = sn
  · exact (CodeSpec.id (go_ok (body_ok tnamed tcalm tmixed _ _ _ _ _ _ cRest_calm) (rest_p0_pt s sn n cs hs hcs hW kL ) (aC dN (aC (inside_of (by omega)) (aC ((by simpa using h0)) aN))))).le (k_pt h0)
  · exact (CodeSpec.id (go_ok (body_ok tnamed tcalm tmixed _ _ _ _ _ _ cRest_calm) (rest_p0_pf s sn n cs hs hcs hW kL ) (aC dN (aC (inside_of (by omega)) (aC ((by simpa using h0)) (aC (hW) (aC (kL) aN))))))).le (k_pf h0)
end
section
variable (s : ByteArray) (sn : Int) (n : Nat) (cs vs : List Value) (j : Nat) (hs : 1 ≤ ByteArray.size s ∧ ByteArray.size s ≤ 140737488351232) (hcs : List.length cs = n) (hW : CallSpec Try.prog 20 [.int .u8 sn] [] (.mk (slB 0 n n) [.own 3 cs] [])) (kL : CodeSpec Try.prog 3 lpWC (frW sn s n 0) (hpW0 s 1 cs) (endP1 vs j))
include s sn n cs vs j hs hcs hW kL
theorem rest_p1_pt : go (body (Try.prog) (8) (3) (8) (fun x => [4, 5, 6]) (cRest) (frR sn s) (hpR)) [(31, .dec false), (27, Itm.must), (9, .dec true)] = some (Out.mk Xt.ret (frOf 58 [(4, (zPA 0)), (5, (zPA 1)), (6, (zPA 2))]) [.own 22 [zSN], .own 3 [.int .i64 0], .own 4 [.bool false]] [2, 1, 0], true, [decide (0 ≥ (↑(ByteArray.size s) : Int)) = false, inside 0 (ByteArray.size s) = true, (!decide ((↑(UInt8.toNat (List.getD (Array.toList (ByteArray.data s)) 0 0)) : Int) = sn)) = true]) := by kernel_rfl
theorem rest_p1_pf : go (body (Try.prog) (8) (3) (8) (fun x => [4, 5, 6]) (cRest) (frR sn s) (hpR)) [(31, .dec false), (27, Itm.must), (9, .dec false), (1, .call (.mk ((zSB 0 n n)) [.own 3 cs] [])), (5, Itm.loop [0, 1, 4, 5, 6, 7, 20, 21, 22] (Out.mk (Xt.pan early) (frOf 58 [(4, (zPA 0)), (5, (zPA 1)), (6, (zPA 2))]) [.own 22 [(zSB 3 j j)], .own 3 [.int .i64 0], .own 4 [.bool false], .own 3 vs] [0]))] = some (Out.mk (Xt.pan early) (frOf 58 [(4, (zPA 0)), (5, (zPA 1)), (6, (zPA 2))]) [.own 22 [(zSB 3 j j)], .own 3 [.int .i64 0], .own 4 [.bool false], .own 3 vs] [0], true, [decide (0 ≥ (↑(ByteArray.size s) : Int)) = false, inside 0 (ByteArray.size s) = true, (!decide ((↑(UInt8.toNat (List.getD (Array.toList (ByteArray.data s)) 0 0)) : Int) = sn)) = false, type_of% hW, type_of% kL]) := by kernel_rfl
theorem rest_p1 (R : Out) (k_pt : (h0 : ¬(↑(UInt8.toNat (List.getD (Array.toList (ByteArray.data s)) 0 0)) : Int) = sn) → Out.le (Out.mk Xt.ret (frOf 58 [(4, (zPA 0)), (5, (zPA 1)), (6, (zPA 2))]) [.own 22 [zSN], .own 3 [.int .i64 0], .own 4 [.bool false]] [2, 1, 0]) R) (k_pf : (h0 : ¬ (¬(↑(UInt8.toNat (List.getD (Array.toList (ByteArray.data s)) 0 0)) : Int) = sn)) → Out.le (Out.mk (Xt.pan early) (frOf 58 [(4, (zPA 0)), (5, (zPA 1)), (6, (zPA 2))]) [.own 22 [(zSB 3 j j)], .own 3 [.int .i64 0], .own 4 [.bool false], .own 3 vs] [0]) R) : CodeSpec (Try.prog) (3) (cRest) (frR sn s) (hpR) R := by
  by_cases h0 : ¬(↑(UInt8.toNat (List.getD (Array.toList (ByteArray.data s)) 0 0)) : Int) = sn
  · exact (CodeSpec.id (go_ok (body_ok tnamed tcalm tmixed _ _ _ _ _ _ cRest_calm) (rest_p1_pt s sn n cs vs j hs hcs hW kL ) (aC dN (aC (inside_of (by omega)) (aC ((by simpa using h0)) aN))))).le (k_pt h0)
  · exact (CodeSpec.id (go_ok (body_ok tnamed tcalm tmixed _ _ _ _ _ _ cRest_calm) (rest_p1_pf s sn n cs vs j hs hcs hW kL ) (aC dN (aC (inside_of (by omega)) (aC ((by simpa using h0)) (aC (hW) (aC (kL) aN))))))).le (k_pf h0)
end
section
variable (s : ByteArray) (sn c : Int) (n k : Nat) (cs vs : List Value) (j : Nat) (hs : 1 ≤ ByteArray.size s ∧ ByteArray.size s ≤ 140737488351232) (hk : k = ByteArray.size s) (hcs : List.length cs = n) (hW : CallSpec Try.prog 20 [.int .u8 sn] [] (.mk (slB 0 n n) [.own 3 cs] [])) (kL : CodeSpec Try.prog 3 lpWC (frW sn s n 0) (hpW0 s 1 cs) (Out.mk (Xt.exit 0) (frW sn s n (↑n : Int)) (hpW1 s (↑k : Int) cs vs j) [0])) (kC : CallSpec Try.prog 27 [.string (ByteArray.extract s 0 k)] [] (.mk (Value.int IntKind.u16 c) [] [])) (kN : shortN s (↑k : Int))
include s sn c n k cs vs j hs hk hcs hW kL kC kN
theorem rest_c1_pt : go (body (Try.prog) (8) (3) (8) (fun x => [4, 5, 6]) (cRest) (frR sn s) (hpR)) [(31, .dec false), (27, Itm.must), (9, .dec true)] = some (Out.mk Xt.ret (frOf 58 [(4, (zPA 0)), (5, (zPA 1)), (6, (zPA 2))]) [.own 22 [zSN], .own 3 [.int .i64 0], .own 4 [.bool false]] [2, 1, 0], true, [decide (0 ≥ (↑(ByteArray.size s) : Int)) = false, inside 0 (ByteArray.size s) = true, (!decide ((↑(UInt8.toNat (List.getD (Array.toList (ByteArray.data s)) 0 0)) : Int) = sn)) = true]) := by kernel_rfl
theorem rest_c1_pf : go (body (Try.prog) (8) (3) (8) (fun x => [4, 5, 6]) (cRest) (frR sn s) (hpR)) [(31, .dec false), (27, Itm.must), (9, .dec false), (1, .call (.mk ((zSB 0 n n)) [.own 3 cs] [])), (5, Itm.loop [0, 1, 4, 5, 6, 7, 20, 21, 22] (Out.mk (Xt.exit 0) (frOf 58 [(0, .int .u8 sn), (1, .string s), (4, (zPA 0)), (5, (zPA 1)), (6, (zPA 2)), (7, (zPA 3)), (20, (zSB 4 n n)), (21, .int .i64 (↑n : Int)), (22, .int .i64 (↑n : Int))]) [.own 22 [(zSB 5 j j)], .own 3 [.int .i64 0], .own 4 [.bool false], .own 56 [.string s, .int .i64 (↑k : Int)], .own 3 cs, .own 3 vs] [0])), (7, Itm.must), (1, .call (.mk (Value.int IntKind.u16 c) [] [])), (4, Itm.loop [4, 5, 6, 7, 10] (Out.mk (Xt.pan early) (frOf 58 [(4, (zPA 0)), (5, (zPA 1)), (6, (zPA 2)), (7, (zPA 3)), (10, Value.int IntKind.u16 c)]) [.own 22 [(zSB 4 j j)], .own 3 [.int .i64 0], .own 4 [.bool false], .own 56 [.string s, .int .i64 (↑k : Int)], .own 3 vs] []))] = some (Out.mk (Xt.pan early) (frOf 58 [(4, (zPA 0)), (5, (zPA 1)), (6, (zPA 2))]) [.own 22 [(zSB 3 j j)], .own 3 [.int .i64 0], .own 4 [.bool false], .own 3 vs] [0], true, [decide (0 ≥ (↑(ByteArray.size s) : Int)) = false, inside 0 (ByteArray.size s) = true, (!decide ((↑(UInt8.toNat (List.getD (Array.toList (ByteArray.data s)) 0 0)) : Int) = sn)) = false, type_of% hW, type_of% kL, upto (↑k : Int) (ByteArray.size s) = true, type_of% kC, CodeSpec Try.prog 3 rg11 (frOf 58 [(4, (zPA 0)), (5, (zPA 1)), (6, (zPA 2)), (7, (zPA 3)), (10, Value.int IntKind.u16 c)]) [.own 22 [(zSB 4 j j)], .own 3 [.int .i64 0], .own 4 [.bool false], .own 56 [.string s, .int .i64 (↑k : Int)], .own 3 vs] (Out.mk (Xt.pan early) (frOf 58 [(4, (zPA 0)), (5, (zPA 1)), (6, (zPA 2)), (7, (zPA 3)), (10, Value.int IntKind.u16 c)]) [.own 22 [(zSB 4 j j)], .own 3 [.int .i64 0], .own 4 [.bool false], .own 56 [.string s, .int .i64 (↑k : Int)], .own 3 vs] [])]) := by kernel_rfl
theorem rest_c1 (R : Out) (k_pt : (h0 : ¬(↑(UInt8.toNat (List.getD (Array.toList (ByteArray.data s)) 0 0)) : Int) = sn) → Out.le (Out.mk Xt.ret (frOf 58 [(4, (zPA 0)), (5, (zPA 1)), (6, (zPA 2))]) [.own 22 [zSN], .own 3 [.int .i64 0], .own 4 [.bool false]] [2, 1, 0]) R) (k_pf : (h0 : ¬ (¬(↑(UInt8.toNat (List.getD (Array.toList (ByteArray.data s)) 0 0)) : Int) = sn)) → Out.le (Out.mk (Xt.pan early) (frOf 58 [(4, (zPA 0)), (5, (zPA 1)), (6, (zPA 2))]) [.own 22 [(zSB 3 j j)], .own 3 [.int .i64 0], .own 4 [.bool false], .own 3 vs] [0]) R) : CodeSpec (Try.prog) (3) (cRest) (frR sn s) (hpR) R := by
  by_cases h0 : ¬(↑(UInt8.toNat (List.getD (Array.toList (ByteArray.data s)) 0 0)) : Int) = sn
  · exact (CodeSpec.id (go_ok (body_ok tnamed tcalm tmixed _ _ _ _ _ _ cRest_calm) (rest_c1_pt s sn c n k cs vs j hs hk hcs hW kL kC kN ) (aC dN (aC (inside_of (by omega)) (aC ((by simpa using h0)) aN))))).le (k_pt h0)
  · exact (CodeSpec.id (go_ok (body_ok tnamed tcalm tmixed _ _ _ _ _ _ cRest_calm) (rest_c1_pf s sn c n k cs vs j hs hk hcs hW kL kC kN ) (aC dN (aC (inside_of (by omega)) (aC ((by simpa using h0)) (aC (hW) (aC (kL) (aC (upto_of (by omega)) (aC (kC) (aC ((rg11a_pan kN)) aN)))))))))).le (k_pf h0)
end
section
variable (s : ByteArray) (sn c : Int) (n k : Nat) (cs vs : List Value) (j : Nat) (hs : 1 ≤ ByteArray.size s ∧ ByteArray.size s ≤ 140737488351232) (hk : k + 2 ≤ ByteArray.size s) (hcs : List.length cs = n) (hc : 0 ≤ c ∧ c ≤ 65535) (hW : CallSpec Try.prog 20 [.int .u8 sn] [] (.mk (slB 0 n n) [.own 3 cs] [])) (kL : CodeSpec Try.prog 3 lpWC (frW sn s n 0) (hpW0 s 1 cs) (Out.mk (Xt.exit 0) (frW sn s n (↑n : Int)) (hpW1 s (↑k : Int) cs vs j) [0])) (kC : CallSpec Try.prog 27 [.string (ByteArray.extract s 0 k)] [] (.mk (Value.int IntKind.u16 c) [] []))
include s sn c n k cs vs j hs hk hcs hc hW kL kC
theorem rest_ok_pt : go (body (Try.prog) (8) (3) (8) (fun x => [4, 5, 6]) (cRest) (frR sn s) (hpR)) [(31, .dec false), (27, Itm.must), (9, .dec true)] = some (Out.mk Xt.ret (frOf 58 [(4, (zPA 0)), (5, (zPA 1)), (6, (zPA 2))]) [.own 22 [zSN], .own 3 [.int .i64 0], .own 4 [.bool false]] [2, 1, 0], true, [decide (0 ≥ (↑(ByteArray.size s) : Int)) = false, inside 0 (ByteArray.size s) = true, (!decide ((↑(UInt8.toNat (List.getD (Array.toList (ByteArray.data s)) 0 0)) : Int) = sn)) = true]) := by kernel_rfl
theorem rest_ok_pft : go (body (Try.prog) (8) (3) (8) (fun x => [4, 5, 6]) (cRest) (frR sn s) (hpR)) [(31, .dec false), (27, Itm.must), (9, .dec false), (1, .call (.mk ((zSB 0 n n)) [.own 3 cs] [])), (5, Itm.loop [0, 1, 4, 5, 6, 7, 20, 21, 22] (Out.mk (Xt.exit 0) (frOf 58 [(0, .int .u8 sn), (1, .string s), (4, (zPA 0)), (5, (zPA 1)), (6, (zPA 2)), (7, (zPA 3)), (20, (zSB 4 n n)), (21, .int .i64 (↑n : Int)), (22, .int .i64 (↑n : Int))]) [.own 22 [(zSB 5 j j)], .own 3 [.int .i64 0], .own 4 [.bool false], .own 56 [.string s, .int .i64 (↑k : Int)], .own 3 cs, .own 3 vs] [0])), (7, Itm.must), (1, .call (.mk (Value.int IntKind.u16 c) [] [])), (24, .dec false), (6, Itm.val (.int .i64 ((↑k : Int) + 1))), (19, Itm.val (.int .i64 ((↑k : Int) + 1 - 1))), (0, Itm.must), (10, .dec true), (0, .dec true), (0, .dec true), (0, .dec true), (0, .dec true), (0, .dec true), (0, .dec true)] = some (Out.mk Xt.ret (frOf 58 [(4, (zPA 0)), (5, (zPA 1)), (6, (zPA 2))]) [.own 22 [zSN], .own 3 [.int .i64 0], .own 4 [.bool false]] [2, 1, 0, 0], true, [decide (0 ≥ (↑(ByteArray.size s) : Int)) = false, inside 0 (ByteArray.size s) = true, (!decide ((↑(UInt8.toNat (List.getD (Array.toList (ByteArray.data s)) 0 0)) : Int) = sn)) = false, type_of% hW, type_of% kL, upto (↑k : Int) (ByteArray.size s) = true, type_of% kC, decide ((↑k : Int) ≥ (↑(ByteArray.size s) : Int)) = false, Value.int .i64 (IntKind.wrap .i64 ((↑k : Int) + 1)) = .int .i64 ((↑k : Int) + 1), Value.int .i64 (IntKind.wrap .i64 ((↑k : Int) + 1 - 1)) = .int .i64 ((↑k : Int) + 1 - 1), inside ((↑k : Int) + 1 - 1) (ByteArray.size s) = true, (!decide ((↑(UInt8.toNat (List.getD (Array.toList (ByteArray.data s)) (Int.toNat ((↑k : Int) + 1 - 1)) 0)) : Int) = IntKind.wrap IntKind.u8 c)) = true, (!decide ((↑(UInt8.toNat (List.getD (Array.toList (ByteArray.data s)) (Int.toNat ((↑k : Int) + 1 - 1)) 0)) : Int) = IntKind.wrap IntKind.u8 c)) = true, (!decide ((↑(UInt8.toNat (List.getD (Array.toList (ByteArray.data s)) (Int.toNat ((↑k : Int) + 1 - 1)) 0)) : Int) = IntKind.wrap IntKind.u8 c)) = true, (!decide ((↑(UInt8.toNat (List.getD (Array.toList (ByteArray.data s)) (Int.toNat ((↑k : Int) + 1 - 1)) 0)) : Int) = IntKind.wrap IntKind.u8 c)) = true, (!decide ((↑(UInt8.toNat (List.getD (Array.toList (ByteArray.data s)) (Int.toNat ((↑k : Int) + 1 - 1)) 0)) : Int) = IntKind.wrap IntKind.u8 c)) = true, (!decide ((↑(UInt8.toNat (List.getD (Array.toList (ByteArray.data s)) (Int.toNat ((↑k : Int) + 1 - 1)) 0)) : Int) = IntKind.wrap IntKind.u8 c)) = true, (!decide ((↑(UInt8.toNat (List.getD (Array.toList (ByteArray.data s)) (Int.toNat ((↑k : Int) + 1 - 1)) 0)) : Int) = IntKind.wrap IntKind.u8 c)) = true]) := by kernel_rfl
theorem rest_ok_pfft : go (body (Try.prog) (8) (3) (8) (fun x => [4, 5, 6]) (cRest) (frR sn s) (hpR)) [(31, .dec false), (27, Itm.must), (9, .dec false), (1, .call (.mk ((zSB 0 n n)) [.own 3 cs] [])), (5, Itm.loop [0, 1, 4, 5, 6, 7, 20, 21, 22] (Out.mk (Xt.exit 0) (frOf 58 [(0, .int .u8 sn), (1, .string s), (4, (zPA 0)), (5, (zPA 1)), (6, (zPA 2)), (7, (zPA 3)), (20, (zSB 4 n n)), (21, .int .i64 (↑n : Int)), (22, .int .i64 (↑n : Int))]) [.own 22 [(zSB 5 j j)], .own 3 [.int .i64 0], .own 4 [.bool false], .own 56 [.string s, .int .i64 (↑k : Int)], .own 3 cs, .own 3 vs] [0])), (7, Itm.must), (1, .call (.mk (Value.int IntKind.u16 c) [] [])), (24, .dec false), (6, Itm.val (.int .i64 ((↑k : Int) + 1))), (19, Itm.val (.int .i64 ((↑k : Int) + 1 - 1))), (0, Itm.must), (10, .dec false), (1, .dec false), (19, .dec false), (6, Itm.val (.int .i64 ((↑k : Int) + 1 + 1))), (19, Itm.val (.int .i64 ((↑k : Int) + 1 + 1 - 1))), (0, Itm.must), (6, .dec false), (1, .dec false), (1, Itm.val (Value.int IntKind.u16 (c / 256))), (0, .dec false), (0, Itm.val (.int .u8 (c / 256))), (0, .dec false), (1, .dec false), (2, .dec true)] = some (Out.mk Xt.ret (frOf 58 [(4, (zPA 0)), (5, (zPA 1)), (6, (zPA 2))]) [.own 22 [zSN], .own 3 [.int .i64 0], .own 4 [.bool false]] [2, 1, 0, 0], true, [decide (0 ≥ (↑(ByteArray.size s) : Int)) = false, inside 0 (ByteArray.size s) = true, (!decide ((↑(UInt8.toNat (List.getD (Array.toList (ByteArray.data s)) 0 0)) : Int) = sn)) = false, type_of% hW, type_of% kL, upto (↑k : Int) (ByteArray.size s) = true, type_of% kC, decide ((↑k : Int) ≥ (↑(ByteArray.size s) : Int)) = false, Value.int .i64 (IntKind.wrap .i64 ((↑k : Int) + 1)) = .int .i64 ((↑k : Int) + 1), Value.int .i64 (IntKind.wrap .i64 ((↑k : Int) + 1 - 1)) = .int .i64 ((↑k : Int) + 1 - 1), inside ((↑k : Int) + 1 - 1) (ByteArray.size s) = true, (!decide ((↑(UInt8.toNat (List.getD (Array.toList (ByteArray.data s)) (Int.toNat ((↑k : Int) + 1 - 1)) 0)) : Int) = IntKind.wrap IntKind.u8 c)) = false, (!decide ((↑(UInt8.toNat (List.getD (Array.toList (ByteArray.data s)) (Int.toNat ((↑k : Int) + 1 - 1)) 0)) : Int) = IntKind.wrap IntKind.u8 c)) = false, decide ((↑k : Int) + 1 ≥ (↑(ByteArray.size s) : Int)) = false, Value.int .i64 (IntKind.wrap .i64 ((↑k : Int) + 1 + 1)) = .int .i64 ((↑k : Int) + 1 + 1), Value.int .i64 (IntKind.wrap .i64 ((↑k : Int) + 1 + 1 - 1)) = .int .i64 ((↑k : Int) + 1 + 1 - 1), inside ((↑k : Int) + 1 + 1 - 1) (ByteArray.size s) = true, (!decide ((↑(UInt8.toNat (List.getD (Array.toList (ByteArray.data s)) (Int.toNat ((↑k : Int) + 1 - 1)) 0)) : Int) = IntKind.wrap IntKind.u8 c)) = false, (!decide ((↑(UInt8.toNat (List.getD (Array.toList (ByteArray.data s)) (Int.toNat ((↑k : Int) + 1 - 1)) 0)) : Int) = IntKind.wrap IntKind.u8 c)) = false, Value.int IntKind.u16 (Int.fdiv c 256) = Value.int IntKind.u16 (c / 256), (!decide ((↑(UInt8.toNat (List.getD (Array.toList (ByteArray.data s)) (Int.toNat ((↑k : Int) + 1 - 1)) 0)) : Int) = IntKind.wrap IntKind.u8 c)) = false, Value.int .u8 (IntKind.wrap IntKind.u8 (c / 256)) = .int .u8 (c / 256), (!decide ((↑(UInt8.toNat (List.getD (Array.toList (ByteArray.data s)) (Int.toNat ((↑k : Int) + 1 - 1)) 0)) : Int) = IntKind.wrap IntKind.u8 c)) = false, (!decide ((↑(UInt8.toNat (List.getD (Array.toList (ByteArray.data s)) (Int.toNat ((↑k : Int) + 1 - 1)) 0)) : Int) = IntKind.wrap IntKind.u8 c)) = false, (!decide ((↑(UInt8.toNat (List.getD (Array.toList (ByteArray.data s)) (Int.toNat ((↑k : Int) + 1 + 1 - 1)) 0)) : Int) = c / 256)) = true]) := by kernel_rfl
theorem rest_ok_pfff : go (body (Try.prog) (8) (3) (8) (fun x => [4, 5, 6]) (cRest) (frR sn s) (hpR)) [(31, .dec false), (27, Itm.must), (9, .dec false), (1, .call (.mk ((zSB 0 n n)) [.own 3 cs] [])), (5, Itm.loop [0, 1, 4, 5, 6, 7, 20, 21, 22] (Out.mk (Xt.exit 0) (frOf 58 [(0, .int .u8 sn), (1, .string s), (4, (zPA 0)), (5, (zPA 1)), (6, (zPA 2)), (7, (zPA 3)), (20, (zSB 4 n n)), (21, .int .i64 (↑n : Int)), (22, .int .i64 (↑n : Int))]) [.own 22 [(zSB 5 j j)], .own 3 [.int .i64 0], .own 4 [.bool false], .own 56 [.string s, .int .i64 (↑k : Int)], .own 3 cs, .own 3 vs] [0])), (7, Itm.must), (1, .call (.mk (Value.int IntKind.u16 c) [] [])), (24, .dec false), (6, Itm.val (.int .i64 ((↑k : Int) + 1))), (19, Itm.val (.int .i64 ((↑k : Int) + 1 - 1))), (0, Itm.must), (10, .dec false), (1, .dec false), (19, .dec false), (6, Itm.val (.int .i64 ((↑k : Int) + 1 + 1))), (19, Itm.val (.int .i64 ((↑k : Int) + 1 + 1 - 1))), (0, Itm.must), (6, .dec false), (1, .dec false), (1, Itm.val (Value.int IntKind.u16 (c / 256))), (0, .dec false), (0, Itm.val (.int .u8 (c / 256))), (0, .dec false), (1, .dec false), (2, .dec false)] = some (Out.mk Xt.ret (frOf 58 [(4, (zPA 0)), (5, (zPA 1)), (6, (zPA 2))]) [.own 22 [(zSB 3 j j)], .own 3 [.int .i64 ((↑k : Int) + 1 + 1)], .own 4 [.bool true], .own 3 vs] [2, 1, 0, 0], true, [decide (0 ≥ (↑(ByteArray.size s) : Int)) = false, inside 0 (ByteArray.size s) = true, (!decide ((↑(UInt8.toNat (List.getD (Array.toList (ByteArray.data s)) 0 0)) : Int) = sn)) = false, type_of% hW, type_of% kL, upto (↑k : Int) (ByteArray.size s) = true, type_of% kC, decide ((↑k : Int) ≥ (↑(ByteArray.size s) : Int)) = false, Value.int .i64 (IntKind.wrap .i64 ((↑k : Int) + 1)) = .int .i64 ((↑k : Int) + 1), Value.int .i64 (IntKind.wrap .i64 ((↑k : Int) + 1 - 1)) = .int .i64 ((↑k : Int) + 1 - 1), inside ((↑k : Int) + 1 - 1) (ByteArray.size s) = true, (!decide ((↑(UInt8.toNat (List.getD (Array.toList (ByteArray.data s)) (Int.toNat ((↑k : Int) + 1 - 1)) 0)) : Int) = IntKind.wrap IntKind.u8 c)) = false, (!decide ((↑(UInt8.toNat (List.getD (Array.toList (ByteArray.data s)) (Int.toNat ((↑k : Int) + 1 - 1)) 0)) : Int) = IntKind.wrap IntKind.u8 c)) = false, decide ((↑k : Int) + 1 ≥ (↑(ByteArray.size s) : Int)) = false, Value.int .i64 (IntKind.wrap .i64 ((↑k : Int) + 1 + 1)) = .int .i64 ((↑k : Int) + 1 + 1), Value.int .i64 (IntKind.wrap .i64 ((↑k : Int) + 1 + 1 - 1)) = .int .i64 ((↑k : Int) + 1 + 1 - 1), inside ((↑k : Int) + 1 + 1 - 1) (ByteArray.size s) = true, (!decide ((↑(UInt8.toNat (List.getD (Array.toList (ByteArray.data s)) (Int.toNat ((↑k : Int) + 1 - 1)) 0)) : Int) = IntKind.wrap IntKind.u8 c)) = false, (!decide ((↑(UInt8.toNat (List.getD (Array.toList (ByteArray.data s)) (Int.toNat ((↑k : Int) + 1 - 1)) 0)) : Int) = IntKind.wrap IntKind.u8 c)) = false, Value.int IntKind.u16 (Int.fdiv c 256) = Value.int IntKind.u16 (c / 256), (!decide ((↑(UInt8.toNat (List.getD (Array.toList (ByteArray.data s)) (Int.toNat ((↑k : Int) + 1 - 1)) 0)) : Int) = IntKind.wrap IntKind.u8 c)) = false, Value.int .u8 (IntKind.wrap IntKind.u8 (c / 256)) = .int .u8 (c / 256), (!decide ((↑(UInt8.toNat (List.getD (Array.toList (ByteArray.data s)) (Int.toNat ((↑k : Int) + 1 - 1)) 0)) : Int) = IntKind.wrap IntKind.u8 c)) = false, (!decide ((↑(UInt8.toNat (List.getD (Array.toList (ByteArray.data s)) (Int.toNat ((↑k : Int) + 1 - 1)) 0)) : Int) = IntKind.wrap IntKind.u8 c)) = false, (!decide ((↑(UInt8.toNat (List.getD (Array.toList (ByteArray.data s)) (Int.toNat ((↑k : Int) + 1 + 1 - 1)) 0)) : Int) = c / 256)) = false]) := by kernel_rfl
theorem rest_ok (R : Out) (k_pt : (h0 : ¬(↑(UInt8.toNat (List.getD (Array.toList (ByteArray.data s)) 0 0)) : Int) = sn) → Out.le (Out.mk Xt.ret (frOf 58 [(4, (zPA 0)), (5, (zPA 1)), (6, (zPA 2))]) [.own 22 [zSN], .own 3 [.int .i64 0], .own 4 [.bool false]] [2, 1, 0]) R) (k_pft : (h0 : ¬ (¬(↑(UInt8.toNat (List.getD (Array.toList (ByteArray.data s)) 0 0)) : Int) = sn)) → (h1 : ¬(↑(UInt8.toNat (List.getD (Array.toList (ByteArray.data s)) (Int.toNat ((↑k : Int) + 1 - 1)) 0)) : Int) = IntKind.wrap IntKind.u8 c) → Out.le (Out.mk Xt.ret (frOf 58 [(4, (zPA 0)), (5, (zPA 1)), (6, (zPA 2))]) [.own 22 [zSN], .own 3 [.int .i64 0], .own 4 [.bool false]] [2, 1, 0, 0]) R) (k_pfft : (h0 : ¬ (¬(↑(UInt8.toNat (List.getD (Array.toList (ByteArray.data s)) 0 0)) : Int) = sn)) → (h1 : ¬ (¬(↑(UInt8.toNat (List.getD (Array.toList (ByteArray.data s)) (Int.toNat ((↑k : Int) + 1 - 1)) 0)) : Int) = IntKind.wrap IntKind.u8 c)) → (h2 : ¬(↑(UInt8.toNat (List.getD (Array.toList (ByteArray.data s)) (Int.toNat ((↑k : Int) + 1 + 1 - 1)) 0)) : Int) = c / 256) → Out.le (Out.mk Xt.ret (frOf 58 [(4, (zPA 0)), (5, (zPA 1)), (6, (zPA 2))]) [.own 22 [zSN], .own 3 [.int .i64 0], .own 4 [.bool false]] [2, 1, 0, 0]) R) (k_pfff : (h0 : ¬ (¬(↑(UInt8.toNat (List.getD (Array.toList (ByteArray.data s)) 0 0)) : Int) = sn)) → (h1 : ¬ (¬(↑(UInt8.toNat (List.getD (Array.toList (ByteArray.data s)) (Int.toNat ((↑k : Int) + 1 - 1)) 0)) : Int) = IntKind.wrap IntKind.u8 c)) → (h2 : ¬ (¬(↑(UInt8.toNat (List.getD (Array.toList (ByteArray.data s)) (Int.toNat ((↑k : Int) + 1 + 1 - 1)) 0)) : Int) = c / 256)) → Out.le (Out.mk Xt.ret (frOf 58 [(4, (zPA 0)), (5, (zPA 1)), (6, (zPA 2))]) [.own 22 [(zSB 3 j j)], .own 3 [.int .i64 ((↑k : Int) + 1 + 1)], .own 4 [.bool true], .own 3 vs] [2, 1, 0, 0]) R) : CodeSpec (Try.prog) (3) (cRest) (frR sn s) (hpR) R := by
  by_cases h0 : ¬(↑(UInt8.toNat (List.getD (Array.toList (ByteArray.data s)) 0 0)) : Int) = sn
  · exact (CodeSpec.id (go_ok (body_ok tnamed tcalm tmixed _ _ _ _ _ _ cRest_calm) (rest_ok_pt s sn c n k cs vs j hs hk hcs hc hW kL kC ) (aC dN (aC (inside_of (by omega)) (aC ((by simpa using h0)) aN))))).le (k_pt h0)
  · by_cases h1 : ¬(↑(UInt8.toNat (List.getD (Array.toList (ByteArray.data s)) (Int.toNat ((↑k : Int) + 1 - 1)) 0)) : Int) = IntKind.wrap IntKind.u8 c
    · exact (CodeSpec.id (go_ok (body_ok tnamed tcalm tmixed _ _ _ _ _ _ cRest_calm) (rest_ok_pft s sn c n k cs vs j hs hk hcs hc hW kL kC ) (aC dN (aC (inside_of (by omega)) (aC ((by simpa using h0)) (aC (hW) (aC (kL) (aC (upto_of (by omega)) (aC (kC) (aC dN (aC (congrArg (Value.int _) (Go.IntWalk.i64_in _ (by omega))) (aC (congrArg (Value.int _) (Go.IntWalk.i64_in _ (by omega))) (aC (inside_of (by omega)) (aC ((by simpa using h1)) (aC ((by simpa using h1)) (aC ((by simpa using h1)) (aC ((by simpa using h1)) (aC ((by simpa using h1)) (aC ((by simpa using h1)) (aC ((by simpa using h1)) aN)))))))))))))))))))).le (k_pft h0 h1)
    · by_cases h2 : ¬(↑(UInt8.toNat (List.getD (Array.toList (ByteArray.data s)) (Int.toNat ((↑k : Int) + 1 + 1 - 1)) 0)) : Int) = c / 256
      · exact (CodeSpec.id (go_ok (body_ok tnamed tcalm tmixed _ _ _ _ _ _ cRest_calm) (rest_ok_pfft s sn c n k cs vs j hs hk hcs hc hW kL kC ) (aC dN (aC (inside_of (by omega)) (aC ((by simpa using h0)) (aC (hW) (aC (kL) (aC (upto_of (by omega)) (aC (kC) (aC dN (aC (congrArg (Value.int _) (Go.IntWalk.i64_in _ (by omega))) (aC (congrArg (Value.int _) (Go.IntWalk.i64_in _ (by omega))) (aC (inside_of (by omega)) (aC ((by simpa using h1)) (aC ((by simpa using h1)) (aC dN (aC (congrArg (Value.int _) (Go.IntWalk.i64_in _ (by omega))) (aC (congrArg (Value.int _) (Go.IntWalk.i64_in _ (by omega))) (aC (inside_of (by omega)) (aC ((by simpa using h1)) (aC ((by simpa using h1)) (aC (congrArg (Value.int _) (Int.fdiv_eq_ediv_of_nonneg _ (by omega))) (aC ((by simpa using h1)) (aC (congrArg (Value.int _) (Go.IntWalk.u8_in _ (by omega))) (aC ((by simpa using h1)) (aC ((by simpa using h1)) (aC ((by simpa using h2)) aN))))))))))))))))))))))))))).le (k_pfft h0 h1 h2)
      · exact (CodeSpec.id (go_ok (body_ok tnamed tcalm tmixed _ _ _ _ _ _ cRest_calm) (rest_ok_pfff s sn c n k cs vs j hs hk hcs hc hW kL kC ) (aC dN (aC (inside_of (by omega)) (aC ((by simpa using h0)) (aC (hW) (aC (kL) (aC (upto_of (by omega)) (aC (kC) (aC dN (aC (congrArg (Value.int _) (Go.IntWalk.i64_in _ (by omega))) (aC (congrArg (Value.int _) (Go.IntWalk.i64_in _ (by omega))) (aC (inside_of (by omega)) (aC ((by simpa using h1)) (aC ((by simpa using h1)) (aC dN (aC (congrArg (Value.int _) (Go.IntWalk.i64_in _ (by omega))) (aC (congrArg (Value.int _) (Go.IntWalk.i64_in _ (by omega))) (aC (inside_of (by omega)) (aC ((by simpa using h1)) (aC ((by simpa using h1)) (aC (congrArg (Value.int _) (Int.fdiv_eq_ediv_of_nonneg _ (by omega))) (aC ((by simpa using h1)) (aC (congrArg (Value.int _) (Go.IntWalk.u8_in _ (by omega))) (aC ((by simpa using h1)) (aC ((by simpa using h1)) (aC ((by simpa using h2)) aN))))))))))))))))))))))))))).le (k_pfff h0 h1 h2)
end
end Go.Proofs.Ytbolppjlaipfjaa.Ex
end
section
set_option linter.unusedSectionVars false
set_option linter.unusedSimpArgs false
set_option linter.unusedVariables false
namespace Go.Proofs.Ytbolppjlaipfjaa.Ex
open Go
set_option linter.unusedVariables false
theorem rg11b_run (s : ByteArray) (k c b : Int) (vs : List Value) (j : Nat) : go (regPan Try.prog (callA Try.prog (toldA Try.prog (exec Try.prog 8))) early ⟨undef, [src s (k + 1)], []⟩ 7 [4, 5, 6, 7, 10] 3 rg11 (frQ1 c) (hpP1 s k vs j)) [(1, .call ⟨.int .u8 b, [src s (k + 1)], [0]⟩), (6, .dec false), (1, .dec false)] =
    some (⟨.pan early, frQ1 c, hpP1 s (k + 1) vs j, []⟩, true, [CallSpec Try.prog 31 [at_ 0 0] [src s k] ⟨.int .u8 b, [src s (k + 1)], [0]⟩, (!decide (b = IntKind.wrap .u8 c)) = false, (!decide (b = IntKind.wrap .u8 c)) = false, shortN s (k + 1)]) := by kernel_rfl
theorem rg11b_pan {s : ByteArray} {k c b : Int} {vs : List Value} {j : Nat} (h1 : CallSpec Try.prog 31 [at_ 0 0] [src s k] ⟨.int .u8 b, [src s (k + 1)], [0]⟩) (hb : b = IntKind.wrap .u8 c) (h : shortN s (k + 1)) : CodeSpec Try.prog 3 rg11 (frQ1 c) (hpP1 s k vs j) ⟨.pan early, frQ1 c, hpP1 s (k + 1) vs j, []⟩ :=
  go_ok (regPan_ok tnamed tcalm tmixed) (rg11b_run s k c b vs j) (aC h1 (aC (by simp [hb]) (aC (by simp [hb]) (aC h aN))))
section
variable (s : ByteArray) (sn c b : Int) (n k : Nat) (cs vs : List Value) (j : Nat) (hs : 1 ≤ ByteArray.size s ∧ ByteArray.size s ≤ 140737488351232) (hk : k + 1 = ByteArray.size s) (hcs : List.length cs = n) (hW : CallSpec Try.prog 20 [.int .u8 sn] [] (.mk (slB 0 n n) [.own 3 cs] [])) (kL : CodeSpec Try.prog 3 lpWC (frW sn s n 0) (hpW0 s 1 cs) (Out.mk (Xt.exit 0) (frW sn s n (↑n : Int)) (hpW1 s (↑k : Int) cs vs j) [0])) (kC : CallSpec Try.prog 27 [.string (ByteArray.extract s 0 k)] [] (.mk (Value.int IntKind.u16 c) [] [])) (hb : b = IntKind.wrap IntKind.u8 c) (k1 : CallSpec Try.prog 31 [at_ 0 0] [src s (↑k : Int)] (.mk (.int .u8 b) [src s ((↑k : Int) + 1)] [0])) (kN : shortN s ((↑k : Int) + 1))
include s sn c b n k cs vs j hs hk hcs hW kL kC hb k1 kN
theorem rest_c2_pt : go (body (Try.prog) (8) (3) (8) (fun x => [4, 5, 6]) (cRest) (frR sn s) (hpR)) [(31, .dec false), (27, Itm.must), (9, .dec true)] = some (Out.mk Xt.ret (frOf 58 [(4, (zPA 0)), (5, (zPA 1)), (6, (zPA 2))]) [.own 22 [zSN], .own 3 [.int .i64 0], .own 4 [.bool false]] [2, 1, 0], true, [decide (0 ≥ (↑(ByteArray.size s) : Int)) = false, inside 0 (ByteArray.size s) = true, (!decide ((↑(UInt8.toNat (List.getD (Array.toList (ByteArray.data s)) 0 0)) : Int) = sn)) = true]) := by kernel_rfl
theorem rest_c2_pf : go (body (Try.prog) (8) (3) (8) (fun x => [4, 5, 6]) (cRest) (frR sn s) (hpR)) [(31, .dec false), (27, Itm.must), (9, .dec false), (1, .call (.mk ((zSB 0 n n)) [.own 3 cs] [])), (5, Itm.loop [0, 1, 4, 5, 6, 7, 20, 21, 22] (Out.mk (Xt.exit 0) (frOf 58 [(0, .int .u8 sn), (1, .string s), (4, (zPA 0)), (5, (zPA 1)), (6, (zPA 2)), (7, (zPA 3)), (20, (zSB 4 n n)), (21, .int .i64 (↑n : Int)), (22, .int .i64 (↑n : Int))]) [.own 22 [(zSB 5 j j)], .own 3 [.int .i64 0], .own 4 [.bool false], .own 56 [.string s, .int .i64 (↑k : Int)], .own 3 cs, .own 3 vs] [0])), (7, Itm.must), (1, .call (.mk (Value.int IntKind.u16 c) [] [])), (4, Itm.loop [4, 5, 6, 7, 10] (Out.mk (Xt.pan early) (frOf 58 [(4, (zPA 0)), (5, (zPA 1)), (6, (zPA 2)), (7, (zPA 3)), (10, Value.int IntKind.u16 c)]) [.own 22 [(zSB 4 j j)], .own 3 [.int .i64 0], .own 4 [.bool false], .own 56 [.string s, .int .i64 ((↑k : Int) + 1)], .own 3 vs] []))] = some (Out.mk (Xt.pan early) (frOf 58 [(4, (zPA 0)), (5, (zPA 1)), (6, (zPA 2))]) [.own 22 [(zSB 3 j j)], .own 3 [.int .i64 0], .own 4 [.bool false], .own 3 vs] [0], true, [decide (0 ≥ (↑(ByteArray.size s) : Int)) = false, inside 0 (ByteArray.size s) = true, (!decide ((↑(UInt8.toNat (List.getD (Array.toList (ByteArray.data s)) 0 0)) : Int) = sn)) = false, type_of% hW, type_of% kL, upto (↑k : Int) (ByteArray.size s) = true, type_of% kC, CodeSpec Try.prog 3 rg11 (frOf 58 [(4, (zPA 0)), (5, (zPA 1)), (6, (zPA 2)), (7, (zPA 3)), (10, Value.int IntKind.u16 c)]) [.own 22 [(zSB 4 j j)], .own 3 [.int .i64 0], .own 4 [.bool false], .own 56 [.string s, .int .i64 (↑k : Int)], .own 3 vs] (Out.mk (Xt.pan early) (frOf 58 [(4, (zPA 0)), (5, (zPA 1)), (6, (zPA 2)), (7, (zPA 3)), (10, Value.int IntKind.u16 c)]) [.own 22 [(zSB 4 j j)], .own 3 [.int .i64 0], .own 4 [.bool false], .own 56 [.string s, .int .i64 ((↑k : Int) + 1)], .own 3 vs] [])]) := by kernel_rfl
theorem rest_c2 (R : Out) (k_pt : (h0 : ¬(↑(UInt8.toNat (List.getD (Array.toList (ByteArray.data s)) 0 0)) : Int) = sn) → Out.le (Out.mk Xt.ret (frOf 58 [(4, (zPA 0)), (5, (zPA 1)), (6, (zPA 2))]) [.own 22 [zSN], .own 3 [.int .i64 0], .own 4 [.bool false]] [2, 1, 0]) R) (k_pf : (h0 : ¬ (¬(↑(UInt8.toNat (List.getD (Array.toList (ByteArray.data s)) 0 0)) : Int) = sn)) → Out.le (Out.mk (Xt.pan early) (frOf 58 [(4, (zPA 0)), (5, (zPA 1)), (6, (zPA 2))]) [.own 22 [(zSB 3 j j)], .own 3 [.int .i64 0], .own 4 [.bool false], .own 3 vs] [0]) R) : CodeSpec (Try.prog) (3) (cRest) (frR sn s) (hpR) R := by
  by_cases h0 : ¬(↑(UInt8.toNat (List.getD (Array.toList (ByteArray.data s)) 0 0)) : Int) = sn
  · exact (CodeSpec.id (go_ok (body_ok tnamed tcalm tmixed _ _ _ _ _ _ cRest_calm) (rest_c2_pt s sn c b n k cs vs j hs hk hcs hW kL kC hb k1 kN ) (aC dN (aC (inside_of (by omega)) (aC ((by simpa using h0)) aN))))).le (k_pt h0)
  · exact (CodeSpec.id (go_ok (body_ok tnamed tcalm tmixed _ _ _ _ _ _ cRest_calm) (rest_c2_pf s sn c b n k cs vs j hs hk hcs hW kL kC hb k1 kN ) (aC dN (aC (inside_of (by omega)) (aC ((by simpa using h0)) (aC (hW) (aC (kL) (aC (upto_of (by omega)) (aC (kC) (aC ((rg11b_pan k1 hb kN)) aN)))))))))).le (k_pf h0)
end
section
variable (s : ByteArray) (sn c : Int) (n k : Nat) (cs vs : List Value) (j : Nat) (hs : 1 ≤ ByteArray.size s ∧ ByteArray.size s ≤ 140737488351232) (hk : k + 1 = ByteArray.size s) (hcs : List.length cs = n) (hW : CallSpec Try.prog 20 [.int .u8 sn] [] (.mk (slB 0 n n) [.own 3 cs] [])) (kL : CodeSpec Try.prog 3 lpWC (frW sn s n 0) (hpW0 s 1 cs) (Out.mk (Xt.exit 0) (frW sn s n (↑n : Int)) (hpW1 s (↑k : Int) cs vs j) [0])) (kC : CallSpec Try.prog 27 [.string (ByteArray.extract s 0 k)] [] (.mk (Value.int IntKind.u16 c) [] [])) (hb : ¬(↑(UInt8.toNat (List.getD (Array.toList (ByteArray.data s)) (Int.toNat ((↑k : Int) + 1 - 1)) 0)) : Int) = IntKind.wrap IntKind.u8 c)
include s sn c n k cs vs j hs hk hcs hW kL kC hb
theorem rest_c3_pt : go (body (Try.prog) (8) (3) (8) (fun x => [4, 5, 6]) (cRest) (frR sn s) (hpR)) [(31, .dec false), (27, Itm.must), (9, .dec true)] = some (Out.mk Xt.ret (frOf 58 [(4, (zPA 0)), (5, (zPA 1)), (6, (zPA 2))]) [.own 22 [zSN], .own 3 [.int .i64 0], .own 4 [.bool false]] [2, 1, 0], true, [decide (0 ≥ (↑(ByteArray.size s) : Int)) = false, inside 0 (ByteArray.size s) = true, (!decide ((↑(UInt8.toNat (List.getD (Array.toList (ByteArray.data s)) 0 0)) : Int) = sn)) = true]) := by kernel_rfl
theorem rest_c3_pf : go (body (Try.prog) (8) (3) (8) (fun x => [4, 5, 6]) (cRest) (frR sn s) (hpR)) [(31, .dec false), (27, Itm.must), (9, .dec false), (1, .call (.mk ((zSB 0 n n)) [.own 3 cs] [])), (5, Itm.loop [0, 1, 4, 5, 6, 7, 20, 21, 22] (Out.mk (Xt.exit 0) (frOf 58 [(0, .int .u8 sn), (1, .string s), (4, (zPA 0)), (5, (zPA 1)), (6, (zPA 2)), (7, (zPA 3)), (20, (zSB 4 n n)), (21, .int .i64 (↑n : Int)), (22, .int .i64 (↑n : Int))]) [.own 22 [(zSB 5 j j)], .own 3 [.int .i64 0], .own 4 [.bool false], .own 56 [.string s, .int .i64 (↑k : Int)], .own 3 cs, .own 3 vs] [0])), (7, Itm.must), (1, .call (.mk (Value.int IntKind.u16 c) [] [])), (24, .dec false), (6, Itm.val (.int .i64 ((↑k : Int) + 1))), (19, Itm.val (.int .i64 ((↑k : Int) + 1 - 1))), (0, Itm.must), (10, .dec true), (0, .dec true), (0, .dec true), (0, .dec true), (0, .dec true), (0, .dec true), (0, .dec true)] = some (Out.mk Xt.ret (frOf 58 [(4, (zPA 0)), (5, (zPA 1)), (6, (zPA 2))]) [.own 22 [zSN], .own 3 [.int .i64 0], .own 4 [.bool false]] [2, 1, 0, 0], true, [decide (0 ≥ (↑(ByteArray.size s) : Int)) = false, inside 0 (ByteArray.size s) = true, (!decide ((↑(UInt8.toNat (List.getD (Array.toList (ByteArray.data s)) 0 0)) : Int) = sn)) = false, type_of% hW, type_of% kL, upto (↑k : Int) (ByteArray.size s) = true, type_of% kC, decide ((↑k : Int) ≥ (↑(ByteArray.size s) : Int)) = false, Value.int .i64 (IntKind.wrap .i64 ((↑k : Int) + 1)) = .int .i64 ((↑k : Int) + 1), Value.int .i64 (IntKind.wrap .i64 ((↑k : Int) + 1 - 1)) = .int .i64 ((↑k : Int) + 1 - 1), inside ((↑k : Int) + 1 - 1) (ByteArray.size s) = true, (!decide ((↑(UInt8.toNat (List.getD (Array.toList (ByteArray.data s)) (Int.toNat ((↑k : Int) + 1 - 1)) 0)) : Int) = IntKind.wrap IntKind.u8 c)) = true, (!decide ((↑(UInt8.toNat (List.getD (Array.toList (ByteArray.data s)) (Int.toNat ((↑k : Int) + 1 - 1)) 0)) : Int) = IntKind.wrap IntKind.u8 c)) = true, (!decide ((↑(UInt8.toNat (List.getD (Array.toList (ByteArray.data s)) (Int.toNat ((↑k : Int) + 1 - 1)) 0)) : Int) = IntKind.wrap IntKind.u8 c)) = true, (!decide ((↑(UInt8.toNat (List.getD (Array.toList (ByteArray.data s)) (Int.toNat ((↑k : Int) + 1 - 1)) 0)) : Int) = IntKind.wrap IntKind.u8 c)) = true, (!decide ((↑(UInt8.toNat (List.getD (Array.toList (ByteArray.data s)) (Int.toNat ((↑k : Int) + 1 - 1)) 0)) : Int) = IntKind.wrap IntKind.u8 c)) = true, (!decide ((↑(UInt8.toNat (List.getD (Array.toList (ByteArray.data s)) (Int.toNat ((↑k : Int) + 1 - 1)) 0)) : Int) = IntKind.wrap IntKind.u8 c)) = true, (!decide ((↑(UInt8.toNat (List.getD (Array.toList (ByteArray.data s)) (Int.toNat ((↑k : Int) + 1 - 1)) 0)) : Int) = IntKind.wrap IntKind.u8 c)) = true]) := by kernel_rfl
theorem rest_c3 (R : Out) (k_pt : (h0 : ¬(↑(UInt8.toNat (List.getD (Array.toList (ByteArray.data s)) 0 0)) : Int) = sn) → Out.le (Out.mk Xt.ret (frOf 58 [(4, (zPA 0)), (5, (zPA 1)), (6, (zPA 2))]) [.own 22 [zSN], .own 3 [.int .i64 0], .own 4 [.bool false]] [2, 1, 0]) R) (k_pf : (h0 : ¬ (¬(↑(UInt8.toNat (List.getD (Array.toList (ByteArray.data s)) 0 0)) : Int) = sn)) → Out.le (Out.mk Xt.ret (frOf 58 [(4, (zPA 0)), (5, (zPA 1)), (6, (zPA 2))]) [.own 22 [zSN], .own 3 [.int .i64 0], .own 4 [.bool false]] [2, 1, 0, 0]) R) : CodeSpec (Try.prog) (3) (cRest) (frR sn s) (hpR) R := by
  by_cases h0 : ¬(↑(UInt8.toNat (List.getD (Array.toList (ByteArray.data s)) 0 0)) : Int) = sn
  · exact (CodeSpec.id (go_ok (body_ok tnamed tcalm tmixed _ _ _ _ _ _ cRest_calm) (rest_c3_pt s sn c n k cs vs j hs hk hcs hW kL kC hb ) (aC dN (aC (inside_of (by omega)) (aC ((by simpa using h0)) aN))))).le (k_pt h0)
  · exact (CodeSpec.id (go_ok (body_ok tnamed tcalm tmixed _ _ _ _ _ _ cRest_calm) (rest_c3_pf s sn c n k cs vs j hs hk hcs hW kL kC hb ) (aC dN (aC (inside_of (by omega)) (aC ((by simpa using h0)) (aC (hW) (aC (kL) (aC (upto_of (by omega)) (aC (kC) (aC dN (aC (congrArg (Value.int _) (Go.IntWalk.i64_in _ (by omega))) (aC (congrArg (Value.int _) (Go.IntWalk.i64_in _ (by omega))) (aC (inside_of (by omega)) (aC (congrArg not dN) (aC (congrArg not dN) (aC (congrArg not dN) (aC (congrArg not dN) (aC (congrArg not dN) (aC (congrArg not dN) (aC (congrArg not dN) aN)))))))))))))))))))).le (k_pf h0)
end
end Go.Proofs.Ytbolppjlaipfjaa.Ex
end
section
set_option linter.unusedSectionVars false
set_option linter.unusedSimpArgs false
set_option linter.unusedVariables false
namespace Go.Proofs.Ytbolppjlaipfjaa.Ex
open Go
set_option linter.unusedVariables false
set_option linter.unusedSimpArgs false
theorem out_ok {P : Program} {w : World} {ν ν' : Nu} {m : Nat} {v v' : Value} {hp : Hp} {wr : List Nat} {w' : World} {q : Res} (hi : Inv P w ν m ν' hp (wr ++ []) w') (hv : VR ν' v v') (hq : outA P m v hp wr = some q) :
    ∃ ν2, VR ν2 q.v v' ∧ Inv P w ν m ν2 q.hp q.wr w' := by
  rw [List.append_nil] at hi
  unfold outA at hq
  dsimp only at hq
  revert hq
  have hnd : (reach P hp deep (List.range m ++ idsV v) []).Nodup := reach_nodup _ _ _ (by simp)
  revert hnd
  generalize reach P hp deep (List.range m ++ idsV v) [] = ids
  intro hnd hq
  cases hv2 : ren (posIn ids) v with
  | none => rw [hv2] at hq; cases hq
  | some v2 =>
    cases hs : mapL (fun b => renB P (posIn ids) (hp.getD b .dead)) ids with
    | none => rw [hv2, hs] at hq; cases hq
    | some hp2 =>
      rw [hv2, hs] at hq
      simp only [Option.bind_some] at hq
      split at hq
      · rename_i htk
        cases hq
        obtain ⟨hk, hi2⟩ := Inv.weaken hnd htk hs hi
        exact ⟨_, ren_ok hk hv2 hv, hi2⟩
      · cases hq
noncomputable def rgA : Code := regAt Try.prog 22 0
noncomputable def rgB : Code := regAt Try.prog 22 1
noncomputable def rgC : Code := regAt Try.prog 30 0
noncomputable def rgD : Code := regAt Try.prog 30 1
theorem rgA_calm : calmC rgA = true := by kernel_rfl
theorem rgD_calm : calmC rgD = true := by kernel_rfl
theorem body22 : Try.f22.body = some (rgA.seq (rgB.seq cRest)) := by kernel_rfl
theorem body30 : Try.f30.body = some (rgC.seq (.cond (.tmp 4) rgD .skip)) := by kernel_rfl
theorem rgA_run (sn : Int) (s : ByteArray) : go (body Try.prog 8 0 8 (fun _ => [0, 1, 4, 5, 6]) rgA (frOf 58 [(0, .int .u8 sn), (1, .string s)]) []) [] = some (⟨.normal, frR sn s, hpR, []⟩, true, []) := by kernel_rfl
theorem rgA_done (sn : Int) (s : ByteArray) : CodeSpec Try.prog 0 rgA (frOf 58 [(0, .int .u8 sn), (1, .string s)]) [] ⟨.normal, frR sn s, hpR, []⟩ := go_ok (body_ok tnamed tcalm tmixed 8 8 _ _ _ _ rgA_calm) (rgA_run sn s) all_nil
def frE : Fr := frOf 58 [(4, at_ 0 0), (5, at_ 1 0), (6, at_ 2 0)]
def frD : Fr := frOf 5 [(0, at_ 0 0), (1, at_ 1 0), (2, at_ 2 0)]
theorem rgD0_run : go (body Try.prog 8 3 8 (fun _ => []) rgD frD hpR) [] = some (⟨.normal, frOf 5 [], hpR, [2, 1, 0]⟩, true, []) := by kernel_rfl
theorem rgD0_done : CodeSpec Try.prog 3 rgD frD hpR ⟨.normal, frOf 5 [], hpR, [2, 1, 0]⟩ := go_ok (body_ok tnamed tcalm tmixed 8 8 _ _ _ _ rgD_calm) rgD0_run all_nil
def hpE1 (vs : List Value) (j : Nat) (n : Int) (b : Bool) : Hp := [.own 22 [slB 3 j j], .own 3 [.int .i64 n], .own 4 [.bool b], .own 3 vs]
theorem rgD1_run (vs : List Value) (j : Nat) : go (body Try.prog 8 3 8 (fun _ => []) rgD frD (hpE1 vs j 0 false)) [] = some (⟨.normal, frOf 5 [], hpR, [2, 1, 0]⟩, true, []) := by kernel_rfl
theorem rgD1_done (vs : List Value) (j : Nat) : CodeSpec Try.prog 3 rgD frD (hpE1 vs j 0 false) ⟨.normal, frOf 5 [], hpR, [2, 1, 0]⟩ := go_ok (body_ok tnamed tcalm tmixed 8 8 _ _ _ _ rgD_calm) (rgD1_run vs j) all_nil
theorem Inv.within {P : Program} {w w1 w2 : World} {ν ν1 ν2 : Nu} {m : Nat} {hp1 hp2 : Hp} {wr1 wr2 : List Nat} (h1 : Inv P w ν 0 ν1 hp1 wr1 w1) (hm : m ≤ hp1.length) (hl : ∀ id, id < m → (hp1.getD id .dead).live = true) (h2 : Inv P w1 ν1 m ν2 hp2 wr2 w2) : Inv P w ν 0 ν2 hp2 ([] ++ []) w2 := by
  have old : ∀ id N, id < m → ν1 id = some N → w.heap.size ≤ N.g := fun id N hid hN => by
    rcases h1.fresh id N (Nat.zero_le _) (hl id hid) hN with h | ⟨j, K, hj, _⟩
    · exact h
    · exact absurd hj (Nat.not_lt_zero _)
  refine ⟨h2.rep, Nat.zero_le _, fun id hid => absurd hid (Nat.not_lt_zero _), h2.os.trans h1.os, h2.tape.trans h1.tape, h2.output.trans h1.output, Nat.le_trans h1.size h2.size, fun g hg _ => ?_, fun id N _ hlv hN => ?_⟩
  · rw [← h1.frame g hg (fun id N hid => absurd hid (Nat.not_lt_zero _))]
    exact h2.frame g (Nat.lt_of_lt_of_le hg h1.size) fun id N hid _ hN => by
      have := old id N hid hN
      omega
  · rcases Nat.lt_or_ge id m with hid | hid
    · rw [h2.same id hid] at hN
      exact .inl (old id N hid hN)
    · rcases h2.fresh id N hid hlv hN with h | ⟨j, K, k1, k2, k3, k4⟩
      · exact .inl (Nat.le_trans h1.size h)
      · rw [← k4]
        exact .inl (old j K k1 k3)
theorem at_same {ν ν' : Nu} {i : Nat} {p : Value} (h : ν' i = ν i) (hv : VR ν (at_ i 0) p) : VR ν' (at_ i 0) p := by
  obtain ⟨N, h1, h2⟩ := VR.ptr hv
  exact ⟨N, by show ν' i = some N; rw [h, h1], rfl, h2⟩
theorem results_of {w w1 w2 : World} {ν ν1 ν2 : Nu} {hp : Hp} {wr wr1 : List Nat} {tm : Array Value} {vs : List Value} {q : Res} (h1 : Inv Try.prog w ν 0 ν1 hpR wr1 w1) (h2 : Inv Try.prog w1 ν1 3 ν2 hp wr w2) (hf : FrRel ν2 frE tm)
    (hr : go (resA Try.prog frE hp Try.f22.results.toList) [] = some (vs, true, [])) (hl : vs.all lvlC = true) (hq : outA Try.prog 0 (tie vs) hp [] = some q) :
    ∃ v, (results Try.f22 tm).run Try.prog w2 = .ok v w2 ∧ ∃ ν', VR ν' q.v v ∧ Inv Try.prog w ν 0 ν' q.hp q.wr w2 := by
  obtain ⟨vs', k1, k2⟩ := (go_ok (resA_sat Try.f22.results.toList) hr all_nil) ν2 tm w2 h2.rep hf
  have hi := Inv.within h1 (by decide) (fun id hid => by
    rcases id with _ | _ | _ | id
    · rfl
    · rfl
    · rfl
    · omega) h2
  obtain ⟨ν', k3, k4⟩ := out_ok hi (tie_VR k2 hl) hq
  exact ⟨_, results_run k1, ν', k3, k4⟩
theorem recoverD_ret {c : Frame} {cs : List Frame} (h : c.mode = .returning) : recoverD (c :: cs) = none := by
  simp [recoverD, h]
theorem recoverD_pan {c : Frame} {cs : List Frame} {v : Value} (h : c.mode = .panicking [⟨v, false, false⟩]) : recoverD (c :: cs) = some (v, { c with mode := .panicking [⟨v, true, false⟩] } :: cs) := by
  simp [recoverD, h]
theorem frame_of {sn : Int} {s : ByteArray} {o : Out} {q : Res} {vs : List Value} {hp3 : Hp} {wr3 : List Nat} (h : CodeSpec Try.prog 3 cRest (frR sn s) hpR o) (hfr : o.fr = frE) (hex : (o.ex = .ret ∧ hp3 = o.hp) ∨ (o.ex = .pan early ∧ CodeSpec Try.prog 3 rgD frD o.hp ⟨.normal, frOf 5 [], hp3, wr3⟩))
    (hr : go (resA Try.prog frE hp3 Try.f22.results.toList) [] = some (vs, true, [])) (hl : vs.all lvlC = true) (hq : outA Try.prog 0 (tie vs) hp3 [] = some q) : CallSpec Try.prog 22 [.int .u8 sn, .string s] [] q := by
  intro ν w args' hargs hrep
  obtain ⟨x, y, rfl, hx, hy⟩ : ∃ x y, args' = [x, y] ∧ VR ν (.int .u8 sn) x ∧ VR ν (.string s) y := by
    match args', hargs with
    | _, .cons hx (.cons hy .nil) => exact ⟨_, _, rfl, hx, hy⟩
  have hi0 : Inv Try.prog w ν 0 ν [] ([] ++ []) w := ⟨hrep, Nat.le_refl _, fun _ _ => rfl, rfl, rfl, rfl, Nat.le_refl _, fun _ _ _ => rfl, fun id N hid _ hN => by rw [hrep.dom id (Nat.zero_le _)] at hN; cases hN⟩
  refine calls_of_wp_defers Try.func22 body22 (wp_seq ?_)
  have fr0 : FrRel ν (frOf 58 [(0, .int .u8 sn), (1, .string s)]) (#[x, y] ++ Array.replicate (Try.f22.ntmps - (#[x, y] : Array Value).size) undef) := by
    refine ⟨by rw [Array.size_append, Array.size_replicate]; rfl, fun t v hv => ?_⟩
    have hm := frOf_get 58 _ t v hv
    simp only [List.mem_cons, Prod.mk.injEq, List.not_mem_nil, or_false] at hm
    rcases hm with ⟨rfl, rfl⟩ | ⟨rfl, rfl⟩
    · exact ⟨x, by simp, hx⟩
    · exact ⟨y, by simp, hy⟩
  refine rgA_done sn s w ν ν [] _ w _ hi0 fr0 fun ν1 a1 w1 i1 f1 d1 => ?_
  show (rgB.seq cRest).wp Try.prog _ a1 w1
  refine wp_seq ?_
  -- the deferred call is noted
  obtain ⟨p4, e4, v4⟩ := f1.2 4 _ (show (frR sn s).get 4 = some (at_ 0 0) from rfl)
  obtain ⟨p5, e5, v5⟩ := f1.2 5 _ (show (frR sn s).get 5 = some (at_ 1 0) from rfl)
  obtain ⟨p6, e6, v6⟩ := f1.2 6 _ (show (frR sn s).get 6 = some (at_ 2 0) from rfl)
  have hsz : a1.tmps.size = 58 := f1.1.symm
  have g0 : (opOf rgB 0).op = .makeFunc (.func 30) #[] #[.tmp 4, .tmp 5, .tmp 6] := by kernel_rfl
  have g1 : (opOf rgB 1).op = .defer { callee := .value (.tmp 11), args := #[], argTypes := #[] } := by kernel_rfl
  have n0 : (opOf rgB 0).guard = none := by kernel_rfl
  have n1 : (opOf rgB 1).guard = none := by kernel_rfl
  have t0 : (opOf rgB 0).dst = some 11 := by kernel_rfl
  have t1 : (opOf rgB 1).dst = none := by kernel_rfl
  rw [show rgB = .region 1 (opsOf rgB) false by kernel_rfl]
  refine wp_region_list ?_
  rw [show (opsOf rgB).toList = [opOf rgB 0, opOf rgB 1] by kernel_rfl]
  have ev : ∀ (t : Nat) (v : Value), a1.tmps[t]? = some v → a1.eval (.tmp t) = v := fun t v h => by simp [Act.eval, h]
  have r0 : (execOp a1.eval (opOf rgB 0)).run Try.prog w1 = .ok (.value (.func (.func 30) #[] #[p4, p5, p6])) w1 := by
    simp [execOp, g0, Instr.makeFunc, ev 4 _ e4, ev 5 _ e5, ev 6 _ e6]
  unfold wpList
  rw [if_pos (by simp [Region.wanted, n0])]
  refine .inl ?_
  unfold Oper.wp
  rw [r0, Oper.upon_value, t0]
  have z11 : (a1.put (some 11) (.func (.func 30) #[] #[p4, p5, p6])).eval (.tmp 11) = .func (.func 30) #[] #[p4, p5, p6] := by simp [Act.eval, Act.put, hsz]
  have fP : FrRel ν1 (frR sn s) (a1.put (some 11) (.func (.func 30) #[] #[p4, p5, p6])).tmps := f1.free (fun t ht => by cases ht; rfl)
  have dP : (a1.put (some 11) (.func (.func 30) #[] #[p4, p5, p6])).defers = [] := d1
  generalize a1.put (some 11) (.func (.func 30) #[] #[p4, p5, p6]) = a2 at z11 fP dP
  have r1 : (execOp a2.eval (opOf rgB 1)).run Try.prog w1 = .ok (.defer { target := .fn (.func 30) #[p4, p5, p6], args := #[] }) w1 := by
    simp [execOp, g1, resolve, z11, Deferred.ofValue]
  unfold wpList
  rw [if_pos (by simp [Region.wanted, n1])]
  refine .inl ?_
  unfold Oper.wp
  rw [r1, Oper.upon_defer, t1]
  unfold wpList
  show cRest.wp Try.prog _ { a2 with defers := { target := .fn (.func 30) #[p4, p5, p6], args := #[] } :: a2.defers } w1
  have i1' : Inv Try.prog w1 ν1 3 ν1 hpR [] w1 := ⟨i1.rep, Nat.le_refl _, fun _ _ => rfl, rfl, rfl, rfl, Nat.le_refl _, fun _ _ _ => rfl, fun id N hid hlv _ => by
    rw [getD_out (show hpR.length ≤ id from hid)] at hlv
    cases hlv⟩
  refine h w1 ν1 ν1 [] _ w1 _ i1' fP fun ν2 a3 w2 i2 f2 d2 => ?_
  rw [dP] at d2
  replace d2 : a3.defers = [{ target := .fn (.func 30) #[p4, p5, p6], args := #[] }] := d2
  have hinv : ∀ w2 : World, (invoke (.fn (.func 30) #[p4, p5, p6]) #[]).run Try.prog w2 = .ok (.enter 30 #[p4, p5, p6]) w2 := fun w2 => by
    simp [invoke, callFunc_run tnamed (show bodied Try.prog 30 = true by kernel_rfl)]
  have c0 : (opOf rgC 0).op = .call { callee := .builtin .recover, args := #[], argTypes := #[] } := by kernel_rfl
  have c1 : (opOf rgC 1).op = .binOp .neq 20 (.tmp 3) (.const .nilIface) 20 := by kernel_rfl
  have cn0 : (opOf rgC 0).guard = none := by kernel_rfl
  have cn1 : (opOf rgC 1).guard = none := by kernel_rfl
  have ct0 : (opOf rgC 0).dst = some 3 := by kernel_rfl
  have ct1 : (opOf rgC 1).dst = some 4 := by kernel_rfl
  have cs0 : (opsOf rgC)[0]? = some (opOf rgC 0) := by kernel_rfl
  have cs1 : (opsOf rgC)[1]? = some (opOf rgC 1) := by kernel_rfl
  have csz : (opsOf rgC).size = 2 := by kernel_rfl
  have crun : ∀ (ρ : Operand → Value) (w : World), (execOp ρ (opOf rgC 0)).run Try.prog w = .ok .recover w := fun ρ w => by
    simp [execOp, c0, resolve, invoke, builtin]
  have cneq0 : ∀ (ρ : Operand → Value) (w : World), ρ (.tmp 3) = .nilIface → ρ (.const .nilIface) = .nilIface → (execOp ρ (opOf rgC 1)).run Try.prog w = .ok (.value (.bool false)) w := fun ρ w h1 h2 => by
    simp only [execOp, c1, h1, h2]
    rfl
  have cneq1 : ∀ (ρ : Operand → Value) (w : World), ρ (.tmp 3) = .iface 61 (.agg #[]) → ρ (.const .nilIface) = .nilIface → (execOp ρ (opOf rgC 1)).run Try.prog w = .ok (.value (.bool true)) w := fun ρ w h1 h2 => by
    simp only [execOp, c1, h1, h2]
    rfl
  rw [hfr] at f2
  have fin : ∀ (ν3 : Nu) (w3 : World) (wr4 : List Nat), Inv Try.prog w1 ν1 3 ν3 hp3 wr4 w3 → FrRel ν3 frE a3.tmps → ∃ v, (results Try.f22 a3.tmps).run Try.prog w3 = .ok v w3 ∧ ∃ v' ν', Ending.returned v = .returned v' ∧ VR ν' q.v v' ∧ Inv Try.prog w ν 0 ν' q.hp q.wr w3 := fun ν3 w3 wr4 i3 f3 => by
    obtain ⟨v, k1, ν', k2, k3⟩ := results_of i1 i3 f3 hr hl hq
    exact ⟨v, k1, v, ν', rfl, k2, k3⟩
  have s30 : ∀ (w : World) (tm : Array Value), (results Try.f30 tm).run Try.prog w = .ok (.tuple #[]) w := fun w tm => results_run (fn := Try.f30) (vs' := []) (by rw [show Try.f30.results.toList = [] by kernel_rfl]; rfl)
  have act0 : (#[p4, p5, p6] ++ Array.replicate (Try.f30.ntmps - (#[p4, p5, p6] : Array Value).size) undef) = #[p4, p5, p6, undef, undef] := by rfl
  rcases hex with ⟨e, hh⟩ | ⟨e, hD⟩
  · rw [e]
    subst hh
    show Leaves Try.prog Try.f22 a3.tmps _ a3.defers .returning w2
    rw [d2]
    refine leaves_cons (by intro h; cases h) (hinv w2) (callsD_of_wpS Try.func30 body30 fun c₀ cs hc => ?_)
    refine wpS_seq ?_
    rw [show rgC = .region 0 (opsOf rgC) false by kernel_rfl]
    refine wpS_region ?_
    rw [csz, act0]
    show wpOpsS Try.prog (opsOf rgC) _ [0, 1] _ _ _
    unfold wpOpsS
    rw [cs0]
    dsimp only
    rw [if_pos (by simp [Region.wanted, cn0]), crun]
    dsimp only
    rw [recoverD_ret hc]
    dsimp only
    unfold wpOpsS
    rw [cs1]
    dsimp only
    rw [if_pos (by simp [Region.wanted, cn1]), cneq0 _ _ (by rw [ct0]; rfl) rfl]
    dsimp only [Oper.upon]
    unfold wpOpsS
    show (Code.cond (.tmp 4) rgD .skip).wpS Try.prog _ _ _ _
    refine wpS_cond (t := false) (by rw [ct0, ct1]; rfl) ?_
    rw [if_neg Bool.false_ne_true]
    refine wpS_of_wp (wp_skip ?_)
    refine ⟨by rw [ct0, ct1]; rfl, .returning, by rw [← hc], _, s30 _ _, ?_⟩
    obtain ⟨v, k1, k2⟩ := fin ν2 w2 _ i2 f2
    exact ⟨v, k1, k2⟩
  · rw [e]
    show Leaves Try.prog Try.f22 a3.tmps _ a3.defers (.panicking early) w2
    rw [d2]
    refine leaves_cons (by intro h; cases h) (hinv w2) (callsD_of_wpS Try.func30 body30 fun c₀ cs hc => ?_)
    refine wpS_seq ?_
    rw [show rgC = .region 0 (opsOf rgC) false by kernel_rfl]
    refine wpS_region ?_
    rw [csz, act0]
    show wpOpsS Try.prog (opsOf rgC) _ [0, 1] _ _ _
    unfold wpOpsS
    rw [cs0]
    dsimp only
    rw [if_pos (by simp [Region.wanted, cn0]), crun]
    dsimp only
    rw [recoverD_pan hc]
    dsimp only
    unfold wpOpsS
    rw [cs1]
    dsimp only
    rw [if_pos (by simp [Region.wanted, cn1]), cneq1 _ _ (by rw [ct0]; rfl) rfl]
    dsimp only [Oper.upon]
    unfold wpOpsS
    show (Code.cond (.tmp 4) rgD .skip).wpS Try.prog _ _ _ _
    refine wpS_cond (t := true) (by rw [ct0, ct1]; rfl) ?_
    rw [if_pos rfl]
    refine wpS_of_wp ?_
    have same : ∀ id, id < 3 → ν2 id = ν1 id := fun id hid => i2.same id hid
    rw [ct0, ct1]
    refine hD w1 ν1 ν2 (o.wr ++ []) _ w2 _ i2 ⟨rfl, fun t v hv => ?_⟩ fun ν3 a4 w3 i3 f3 d3 => ?_
    · have hm := frOf_get 5 _ t v hv
      simp only [List.mem_cons, Prod.mk.injEq, List.not_mem_nil, or_false] at hm
      rcases hm with ⟨rfl, rfl⟩ | ⟨rfl, rfl⟩ | ⟨rfl, rfl⟩
      · exact ⟨p4, rfl, at_same (same 0 (by decide)) v4⟩
      · exact ⟨p5, rfl, at_same (same 1 (by decide)) v5⟩
      · exact ⟨p6, rfl, at_same (same 2 (by decide)) v6⟩
    · refine ⟨d3, _, rfl, _, s30 _ _, ?_⟩
      have f4 : FrRel ν3 frE a3.tmps := ⟨f2.1, fun t v hv => by
        obtain ⟨v', k1, k2⟩ := f2.2 t v hv
        refine ⟨v', k1, ?_⟩
        have hm := frOf_get 58 _ t v hv
        have same3 : ∀ id, id < 3 → ν3 id = ν2 id := fun id hid => (i3.same id hid).trans (i2.same id hid).symm
        simp only [List.mem_cons, Prod.mk.injEq, List.not_mem_nil, or_false] at hm
        rcases hm with ⟨rfl, rfl⟩ | ⟨rfl, rfl⟩ | ⟨rfl, rfl⟩
        · exact at_same (same3 0 (by decide)) k2
        · exact at_same (same3 1 (by decide)) k2
        · exact at_same (same3 2 (by decide)) k2⟩
      obtain ⟨v, k1, k2⟩ := fin ν3 w3 _ i3 f4
      exact ⟨v, k1, k2⟩
end Go.Proofs.Ytbolppjlaipfjaa.Ex
end
section
set_option linter.unusedSectionVars false
set_option linter.unusedSimpArgs false
set_option linter.unusedVariables false
namespace Go.Proofs.Ytbolppjlaipfjaa.Ex
open Go
set_option linter.unusedVariables false
noncomputable def radd_loop : Code := loopAt Try.prog 33 0
theorem radd_loop_calm : calmC radd_loop = true := loopAt_calm tcalm 35 0
noncomputable def radd_loopC : Code := .loop radd_loop
def frRadd (c i : Int) : Fr := frOf 24 [(0, .int .u16 c), (5, .int .i64 i)]
section
variable (c i : Int) (hc : 0 ≤ c ∧ c ≤ 65535) (hi : 0 ≤ i ∧ i ≤ 8)
include c i hc hi
theorem radd_round_ptt : go (body (Try.prog) (3) (0) (3) (fun x => [0, 5]) (radd_loop) (frRadd c i) ([])) [(3, .dec true), (2, Itm.val (Value.int IntKind.u16 (c % 2))), (4, Itm.val (Value.int IntKind.u16 (c / 2))), (5, .dec true), (5, Itm.val (.int .i64 (i + 1)))] = some (Out.mk Xt.normal (frOf 24 [(0, Value.int IntKind.u16 (F.bxor IntKind.u16 (c / 2) 33800)), (5, .int .i64 (i + 1))]) [] [], true, [decide (i < 8) = true, Value.int IntKind.u16 (Int.tmod c 2) = Value.int IntKind.u16 (c % 2), Value.int IntKind.u16 (IntKind.wrap IntKind.u16 (Int.tdiv c 2)) = Value.int IntKind.u16 (c / 2), decide (c % 2 = 1) = true, Value.int .i64 (IntKind.wrap .i64 (i + 1)) = .int .i64 (i + 1)]) := by kernel_rfl
theorem radd_round_ptf : go (body (Try.prog) (3) (0) (3) (fun x => [0, 5]) (radd_loop) (frRadd c i) ([])) [(3, .dec true), (2, Itm.val (Value.int IntKind.u16 (c % 2))), (4, Itm.val (Value.int IntKind.u16 (c / 2))), (5, .dec false), (1, Itm.val (.int .i64 (i + 1)))] = some (Out.mk Xt.normal (frOf 24 [(0, Value.int IntKind.u16 (c / 2)), (5, .int .i64 (i + 1))]) [] [], true, [decide (i < 8) = true, Value.int IntKind.u16 (Int.tmod c 2) = Value.int IntKind.u16 (c % 2), Value.int IntKind.u16 (IntKind.wrap IntKind.u16 (Int.tdiv c 2)) = Value.int IntKind.u16 (c / 2), decide (c % 2 = 1) = false, Value.int .i64 (IntKind.wrap .i64 (i + 1)) = .int .i64 (i + 1)]) := by kernel_rfl
theorem radd_round_pf : go (body (Try.prog) (3) (0) (3) (fun x => [0, 5]) (radd_loop) (frRadd c i) ([])) [(3, .dec false)] = some (Out.mk (Xt.exit 0) (frOf 24 [(0, Value.int IntKind.u16 c), (5, .int .i64 i)]) [] [], true, [decide (i < 8) = false]) := by kernel_rfl
theorem radd_round (R : Out) (k_ptt : (h0 : i < 8) → (h1 : c % 2 = 1) → Out.le (Out.mk Xt.normal (frOf 24 [(0, Value.int IntKind.u16 (F.bxor IntKind.u16 (c / 2) 33800)), (5, .int .i64 (i + 1))]) [] []) R) (k_ptf : (h0 : i < 8) → (h1 : ¬ (c % 2 = 1)) → Out.le (Out.mk Xt.normal (frOf 24 [(0, Value.int IntKind.u16 (c / 2)), (5, .int .i64 (i + 1))]) [] []) R) (k_pf : (h0 : ¬ (i < 8)) → Out.le (Out.mk (Xt.exit 0) (frOf 24 [(0, Value.int IntKind.u16 c), (5, .int .i64 i)]) [] []) R) : CodeSpec (Try.prog) (0) (radd_loop) (frRadd c i) ([]) R := by
  by_cases h0 : i < 8
  · by_cases h1 : c % 2 = 1
    · exact (CodeSpec.id (go_ok (body_ok tnamed tcalm tmixed _ _ _ _ _ _ radd_loop_calm) (radd_round_ptt c i hc hi ) (aC (dTq h0) (aC (congrArg (Value.int _) (Int.tmod_eq_emod_of_nonneg (by omega))) (aC (congrArg (Value.int _) (quo_in ⟨by omega, by simp [IntKind.max, IntKind.bits, IntKind.signed] <;> omega, by omega⟩)) (aC (dTq h1) (aC (congrArg (Value.int _) (Go.IntWalk.i64_in _ (by omega))) aN))))))).le (k_ptt h0 h1)
    · exact (CodeSpec.id (go_ok (body_ok tnamed tcalm tmixed _ _ _ _ _ _ radd_loop_calm) (radd_round_ptf c i hc hi ) (aC (dTq h0) (aC (congrArg (Value.int _) (Int.tmod_eq_emod_of_nonneg (by omega))) (aC (congrArg (Value.int _) (quo_in ⟨by omega, by simp [IntKind.max, IntKind.bits, IntKind.signed] <;> omega, by omega⟩)) (aC (dFq h1) (aC (congrArg (Value.int _) (Go.IntWalk.i64_in _ (by omega))) aN))))))).le (k_ptf h0 h1)
  · exact (CodeSpec.id (go_ok (body_ok tnamed tcalm tmixed _ _ _ _ _ _ radd_loop_calm) (radd_round_pf c i hc hi ) (aC (dFq h0) aN))).le (k_pf h0)
end
section
variable (c : Int) (hc : 0 ≤ c ∧ c ≤ 65535) (hk : Value.int IntKind.u16 (F.band IntKind.u16 c 15) = Value.int IntKind.u16 0)
include c hc hk
theorem half0_p : go (exec (Try.prog) (3) (39) ([Value.int IntKind.u16 c]) ([])) [(32, Itm.val (Value.int IntKind.u16 (c / 16))), (1, Itm.val (Value.int IntKind.u16 0))] = some (.mk (Value.int IntKind.u16 (F.bxor IntKind.u16 (c / 16) 0)) [] [], true, [Value.int IntKind.u16 (Int.fdiv c 16) = Value.int IntKind.u16 (c / 16), type_of% hk]) := by kernel_rfl
theorem half0 (R : Res) (k_p : Res.le (.mk (Value.int IntKind.u16 (F.bxor IntKind.u16 (c / 16) 0)) [] []) R) : CallSpec (Try.prog) (39) ([Value.int IntKind.u16 c]) ([]) R := by
  exact (CallSpec.id (go_ok (exec_ok tnamed tcalm tmixed _ _ _ _) (half0_p c hc hk ) (aC (congrArg (Value.int _) (Int.fdiv_eq_ediv_of_nonneg _ (by omega))) (aC (hk) aN)))).le (k_p )
end
section
variable (c : Int) (hc : 0 ≤ c ∧ c ≤ 65535) (hk : Value.int IntKind.u16 (F.band IntKind.u16 c 15) = Value.int IntKind.u16 1)
include c hc hk
theorem half1_p : go (exec (Try.prog) (3) (39) ([Value.int IntKind.u16 c]) ([])) [(32, Itm.val (Value.int IntKind.u16 (c / 16))), (1, Itm.val (Value.int IntKind.u16 1))] = some (.mk (Value.int IntKind.u16 (F.bxor IntKind.u16 (c / 16) 4225)) [] [], true, [Value.int IntKind.u16 (Int.fdiv c 16) = Value.int IntKind.u16 (c / 16), type_of% hk]) := by kernel_rfl
theorem half1 (R : Res) (k_p : Res.le (.mk (Value.int IntKind.u16 (F.bxor IntKind.u16 (c / 16) 4225)) [] []) R) : CallSpec (Try.prog) (39) ([Value.int IntKind.u16 c]) ([]) R := by
  exact (CallSpec.id (go_ok (exec_ok tnamed tcalm tmixed _ _ _ _) (half1_p c hc hk ) (aC (congrArg (Value.int _) (Int.fdiv_eq_ediv_of_nonneg _ (by omega))) (aC (hk) aN)))).le (k_p )
end
section
variable (c : Int) (hc : 0 ≤ c ∧ c ≤ 65535) (hk : Value.int IntKind.u16 (F.band IntKind.u16 c 15) = Value.int IntKind.u16 2)
include c hc hk
theorem half2_p : go (exec (Try.prog) (3) (39) ([Value.int IntKind.u16 c]) ([])) [(32, Itm.val (Value.int IntKind.u16 (c / 16))), (1, Itm.val (Value.int IntKind.u16 2))] = some (.mk (Value.int IntKind.u16 (F.bxor IntKind.u16 (c / 16) 8450)) [] [], true, [Value.int IntKind.u16 (Int.fdiv c 16) = Value.int IntKind.u16 (c / 16), type_of% hk]) := by kernel_rfl
theorem half2 (R : Res) (k_p : Res.le (.mk (Value.int IntKind.u16 (F.bxor IntKind.u16 (c / 16) 8450)) [] []) R) : CallSpec (Try.prog) (39) ([Value.int IntKind.u16 c]) ([]) R := by
  exact (CallSpec.id (go_ok (exec_ok tnamed tcalm tmixed _ _ _ _) (half2_p c hc hk ) (aC (congrArg (Value.int _) (Int.fdiv_eq_ediv_of_nonneg _ (by omega))) (aC (hk) aN)))).le (k_p )
end
section
variable (c : Int) (hc : 0 ≤ c ∧ c ≤ 65535) (hk : Value.int IntKind.u16 (F.band IntKind.u16 c 15) = Value.int IntKind.u16 3)
include c hc hk
theorem half3_p : go (exec (Try.prog) (3) (39) ([Value.int IntKind.u16 c]) ([])) [(32, Itm.val (Value.int IntKind.u16 (c / 16))), (1, Itm.val (Value.int IntKind.u16 3))] = some (.mk (Value.int IntKind.u16 (F.bxor IntKind.u16 (c / 16) 12675)) [] [], true, [Value.int IntKind.u16 (Int.fdiv c 16) = Value.int IntKind.u16 (c / 16), type_of% hk]) := by kernel_rfl
theorem half3 (R : Res) (k_p : Res.le (.mk (Value.int IntKind.u16 (F.bxor IntKind.u16 (c / 16) 12675)) [] []) R) : CallSpec (Try.prog) (39) ([Value.int IntKind.u16 c]) ([]) R := by
  exact (CallSpec.id (go_ok (exec_ok tnamed tcalm tmixed _ _ _ _) (half3_p c hc hk ) (aC (congrArg (Value.int _) (Int.fdiv_eq_ediv_of_nonneg _ (by omega))) (aC (hk) aN)))).le (k_p )
end
section
variable (c : Int) (hc : 0 ≤ c ∧ c ≤ 65535) (hk : Value.int IntKind.u16 (F.band IntKind.u16 c 15) = Value.int IntKind.u16 4)
include c hc hk
theorem half4_p : go (exec (Try.prog) (3) (39) ([Value.int IntKind.u16 c]) ([])) [(32, Itm.val (Value.int IntKind.u16 (c / 16))), (1, Itm.val (Value.int IntKind.u16 4))] = some (.mk (Value.int IntKind.u16 (F.bxor IntKind.u16 (c / 16) 16900)) [] [], true, [Value.int IntKind.u16 (Int.fdiv c 16) = Value.int IntKind.u16 (c / 16), type_of% hk]) := by kernel_rfl
theorem half4 (R : Res) (k_p : Res.le (.mk (Value.int IntKind.u16 (F.bxor IntKind.u16 (c / 16) 16900)) [] []) R) : CallSpec (Try.prog) (39) ([Value.int IntKind.u16 c]) ([]) R := by
  exact (CallSpec.id (go_ok (exec_ok tnamed tcalm tmixed _ _ _ _) (half4_p c hc hk ) (aC (congrArg (Value.int _) (Int.fdiv_eq_ediv_of_nonneg _ (by omega))) (aC (hk) aN)))).le (k_p )
end
section
variable (c : Int) (hc : 0 ≤ c ∧ c ≤ 65535) (hk : Value.int IntKind.u16 (F.band IntKind.u16 c 15) = Value.int IntKind.u16 5)
include c hc hk
theorem half5_p : go (exec (Try.prog) (3) (39) ([Value.int IntKind.u16 c]) ([])) [(32, Itm.val (Value.int IntKind.u16 (c / 16))), (1, Itm.val (Value.int IntKind.u16 5))] = some (.mk (Value.int IntKind.u16 (F.bxor IntKind.u16 (c / 16) 21125)) [] [], true, [Value.int IntKind.u16 (Int.fdiv c 16) = Value.int IntKind.u16 (c / 16), type_of% hk]) := by kernel_rfl
theorem half5 (R : Res) (k_p : Res.le (.mk (Value.int IntKind.u16 (F.bxor IntKind.u16 (c / 16) 21125)) [] []) R) : CallSpec (Try.prog) (39) ([Value.int IntKind.u16 c]) ([]) R := by
  exact (CallSpec.id (go_ok (exec_ok tnamed tcalm tmixed _ _ _ _) (half5_p c hc hk ) (aC (congrArg (Value.int _) (Int.fdiv_eq_ediv_of_nonneg _ (by omega))) (aC (hk) aN)))).le (k_p )
end
section
variable (c : Int) (hc : 0 ≤ c ∧ c ≤ 65535) (hk : Value.int IntKind.u16 (F.band IntKind.u16 c 15) = Value.int IntKind.u16 6)
include c hc hk
theorem half6_p : go (exec (Try.prog) (3) (39) ([Value.int IntKind.u16 c]) ([])) [(32, Itm.val (Value.int IntKind.u16 (c / 16))), (1, Itm.val (Value.int IntKind.u16 6))] = some (.mk (Value.int IntKind.u16 (F.bxor IntKind.u16 (c / 16) 25350)) [] [], true, [Value.int IntKind.u16 (Int.fdiv c 16) = Value.int IntKind.u16 (c / 16), type_of% hk]) := by kernel_rfl
theorem half6 (R : Res) (k_p : Res.le (.mk (Value.int IntKind.u16 (F.bxor IntKind.u16 (c / 16) 25350)) [] []) R) : CallSpec (Try.prog) (39) ([Value.int IntKind.u16 c]) ([]) R := by
  exact (CallSpec.id (go_ok (exec_ok tnamed tcalm tmixed _ _ _ _) (half6_p c hc hk ) (aC (congrArg (Value.int _) (Int.fdiv_eq_ediv_of_nonneg _ (by omega))) (aC (hk) aN)))).le (k_p )
end
section
variable (c : Int) (hc : 0 ≤ c ∧ c ≤ 65535) (hk : Value.int IntKind.u16 (F.band IntKind.u16 c 15) = Value.int IntKind.u16 7)
include c hc hk
theorem half7_p : go (exec (Try.prog) (3) (39) ([Value.int IntKind.u16 c]) ([])) [(32, Itm.val (Value.int IntKind.u16 (c / 16))), (1, Itm.val (Value.int IntKind.u16 7))] = some (.mk (Value.int IntKind.u16 (F.bxor IntKind.u16 (c / 16) 29575)) [] [], true, [Value.int IntKind.u16 (Int.fdiv c 16) = Value.int IntKind.u16 (c / 16), type_of% hk]) := by kernel_rfl
theorem half7 (R : Res) (k_p : Res.le (.mk (Value.int IntKind.u16 (F.bxor IntKind.u16 (c / 16) 29575)) [] []) R) : CallSpec (Try.prog) (39) ([Value.int IntKind.u16 c]) ([]) R := by
  exact (CallSpec.id (go_ok (exec_ok tnamed tcalm tmixed _ _ _ _) (half7_p c hc hk ) (aC (congrArg (Value.int _) (Int.fdiv_eq_ediv_of_nonneg _ (by omega))) (aC (hk) aN)))).le (k_p )
end
section
variable (c : Int) (hc : 0 ≤ c ∧ c ≤ 65535) (hk : Value.int IntKind.u16 (F.band IntKind.u16 c 15) = Value.int IntKind.u16 8)
include c hc hk
theorem half8_p : go (exec (Try.prog) (3) (39) ([Value.int IntKind.u16 c]) ([])) [(32, Itm.val (Value.int IntKind.u16 (c / 16))), (1, Itm.val (Value.int IntKind.u16 8))] = some (.mk (Value.int IntKind.u16 (F.bxor IntKind.u16 (c / 16) 33800)) [] [], true, [Value.int IntKind.u16 (Int.fdiv c 16) = Value.int IntKind.u16 (c / 16), type_of% hk]) := by kernel_rfl
theorem half8 (R : Res) (k_p : Res.le (.mk (Value.int IntKind.u16 (F.bxor IntKind.u16 (c / 16) 33800)) [] []) R) : CallSpec (Try.prog) (39) ([Value.int IntKind.u16 c]) ([]) R := by
  exact (CallSpec.id (go_ok (exec_ok tnamed tcalm tmixed _ _ _ _) (half8_p c hc hk ) (aC (congrArg (Value.int _) (Int.fdiv_eq_ediv_of_nonneg _ (by omega))) (aC (hk) aN)))).le (k_p )
end
section
variable (c : Int) (hc : 0 ≤ c ∧ c ≤ 65535) (hk : Value.int IntKind.u16 (F.band IntKind.u16 c 15) = Value.int IntKind.u16 9)
include c hc hk
theorem half9_p : go (exec (Try.prog) (3) (39) ([Value.int IntKind.u16 c]) ([])) [(32, Itm.val (Value.int IntKind.u16 (c / 16))), (1, Itm.val (Value.int IntKind.u16 9))] = some (.mk (Value.int IntKind.u16 (F.bxor IntKind.u16 (c / 16) 38025)) [] [], true, [Value.int IntKind.u16 (Int.fdiv c 16) = Value.int IntKind.u16 (c / 16), type_of% hk]) := by kernel_rfl
theorem half9 (R : Res) (k_p : Res.le (.mk (Value.int IntKind.u16 (F.bxor IntKind.u16 (c / 16) 38025)) [] []) R) : CallSpec (Try.prog) (39) ([Value.int IntKind.u16 c]) ([]) R := by
  exact (CallSpec.id (go_ok (exec_ok tnamed tcalm tmixed _ _ _ _) (half9_p c hc hk ) (aC (congrArg (Value.int _) (Int.fdiv_eq_ediv_of_nonneg _ (by omega))) (aC (hk) aN)))).le (k_p )
end
section
variable (c : Int) (hc : 0 ≤ c ∧ c ≤ 65535) (hk : Value.int IntKind.u16 (F.band IntKind.u16 c 15) = Value.int IntKind.u16 10)
include c hc hk
theorem half10_p : go (exec (Try.prog) (3) (39) ([Value.int IntKind.u16 c]) ([])) [(32, Itm.val (Value.int IntKind.u16 (c / 16))), (1, Itm.val (Value.int IntKind.u16 10))] = some (.mk (Value.int IntKind.u16 (F.bxor IntKind.u16 (c / 16) 42250)) [] [], true, [Value.int IntKind.u16 (Int.fdiv c 16) = Value.int IntKind.u16 (c / 16), type_of% hk]) := by kernel_rfl
theorem half10 (R : Res) (k_p : Res.le (.mk (Value.int IntKind.u16 (F.bxor IntKind.u16 (c / 16) 42250)) [] []) R) : CallSpec (Try.prog) (39) ([Value.int IntKind.u16 c]) ([]) R := by
  exact (CallSpec.id (go_ok (exec_ok tnamed tcalm tmixed _ _ _ _) (half10_p c hc hk ) (aC (congrArg (Value.int _) (Int.fdiv_eq_ediv_of_nonneg _ (by omega))) (aC (hk) aN)))).le (k_p )
end
section
variable (c : Int) (hc : 0 ≤ c ∧ c ≤ 65535) (hk : Value.int IntKind.u16 (F.band IntKind.u16 c 15) = Value.int IntKind.u16 11)
include c hc hk
theorem half11_p : go (exec (Try.prog) (3) (39) ([Value.int IntKind.u16 c]) ([])) [(32, Itm.val (Value.int IntKind.u16 (c / 16))), (1, Itm.val (Value.int IntKind.u16 11))] = some (.mk (Value.int IntKind.u16 (F.bxor IntKind.u16 (c / 16) 46475)) [] [], true, [Value.int IntKind.u16 (Int.fdiv c 16) = Value.int IntKind.u16 (c / 16), type_of% hk]) := by kernel_rfl
theorem half11 (R : Res) (k_p : Res.le (.mk (Value.int IntKind.u16 (F.bxor IntKind.u16 (c / 16) 46475)) [] []) R) : CallSpec (Try.prog) (39) ([Value.int IntKind.u16 c]) ([]) R := by
  exact (CallSpec.id (go_ok (exec_ok tnamed tcalm tmixed _ _ _ _) (half11_p c hc hk ) (aC (congrArg (Value.int _) (Int.fdiv_eq_ediv_of_nonneg _ (by omega))) (aC (hk) aN)))).le (k_p )
end
section
variable (c : Int) (hc : 0 ≤ c ∧ c ≤ 65535) (hk : Value.int IntKind.u16 (F.band IntKind.u16 c 15) = Value.int IntKind.u16 12)
include c hc hk
theorem half12_p : go (exec (Try.prog) (3) (39) ([Value.int IntKind.u16 c]) ([])) [(32, Itm.val (Value.int IntKind.u16 (c / 16))), (1, Itm.val (Value.int IntKind.u16 12))] = some (.mk (Value.int IntKind.u16 (F.bxor IntKind.u16 (c / 16) 50700)) [] [], true, [Value.int IntKind.u16 (Int.fdiv c 16) = Value.int IntKind.u16 (c / 16), type_of% hk]) := by kernel_rfl
theorem half12 (R : Res) (k_p : Res.le (.mk (Value.int IntKind.u16 (F.bxor IntKind.u16 (c / 16) 50700)) [] []) R) : CallSpec (Try.prog) (39) ([Value.int IntKind.u16 c]) ([]) R := by
  exact (CallSpec.id (go_ok (exec_ok tnamed tcalm tmixed _ _ _ _) (half12_p c hc hk ) (aC (congrArg (Value.int _) (Int.fdiv_eq_ediv_of_nonneg _ (by omega))) (aC (hk) aN)))).le (k_p )
end
section
variable (c : Int) (hc : 0 ≤ c ∧ c ≤ 65535) (hk : Value.int IntKind.u16 (F.band IntKind.u16 c 15) = Value.int IntKind.u16 13)
include c hc hk
theorem half13_p : go (exec (Try.prog) (3) (39) ([Value.int IntKind.u16 c]) ([])) [(32, Itm.val (Value.int IntKind.u16 (c / 16))), (1, Itm.val (Value.int IntKind.u16 13))] = some (.mk (Value.int IntKind.u16 (F.bxor IntKind.u16 (c / 16) 54925)) [] [], true, [Value.int IntKind.u16 (Int.fdiv c 16) = Value.int IntKind.u16 (c / 16), type_of% hk]) := by kernel_rfl
theorem half13 (R : Res) (k_p : Res.le (.mk (Value.int IntKind.u16 (F.bxor IntKind.u16 (c / 16) 54925)) [] []) R) : CallSpec (Try.prog) (39) ([Value.int IntKind.u16 c]) ([]) R := by
  exact (CallSpec.id (go_ok (exec_ok tnamed tcalm tmixed _ _ _ _) (half13_p c hc hk ) (aC (congrArg (Value.int _) (Int.fdiv_eq_ediv_of_nonneg _ (by omega))) (aC (hk) aN)))).le (k_p )
end
section
variable (c : Int) (hc : 0 ≤ c ∧ c ≤ 65535) (hk : Value.int IntKind.u16 (F.band IntKind.u16 c 15) = Value.int IntKind.u16 14)
include c hc hk
theorem half14_p : go (exec (Try.prog) (3) (39) ([Value.int IntKind.u16 c]) ([])) [(32, Itm.val (Value.int IntKind.u16 (c / 16))), (1, Itm.val (Value.int IntKind.u16 14))] = some (.mk (Value.int IntKind.u16 (F.bxor IntKind.u16 (c / 16) 59150)) [] [], true, [Value.int IntKind.u16 (Int.fdiv c 16) = Value.int IntKind.u16 (c / 16), type_of% hk]) := by kernel_rfl
theorem half14 (R : Res) (k_p : Res.le (.mk (Value.int IntKind.u16 (F.bxor IntKind.u16 (c / 16) 59150)) [] []) R) : CallSpec (Try.prog) (39) ([Value.int IntKind.u16 c]) ([]) R := by
  exact (CallSpec.id (go_ok (exec_ok tnamed tcalm tmixed _ _ _ _) (half14_p c hc hk ) (aC (congrArg (Value.int _) (Int.fdiv_eq_ediv_of_nonneg _ (by omega))) (aC (hk) aN)))).le (k_p )
end
section
variable (c : Int) (hc : 0 ≤ c ∧ c ≤ 65535) (hk : Value.int IntKind.u16 (F.band IntKind.u16 c 15) = Value.int IntKind.u16 15)
include c hc hk
theorem half15_p : go (exec (Try.prog) (3) (39) ([Value.int IntKind.u16 c]) ([])) [(32, Itm.val (Value.int IntKind.u16 (c / 16))), (1, Itm.val (Value.int IntKind.u16 15))] = some (.mk (Value.int IntKind.u16 (F.bxor IntKind.u16 (c / 16) 63375)) [] [], true, [Value.int IntKind.u16 (Int.fdiv c 16) = Value.int IntKind.u16 (c / 16), type_of% hk]) := by kernel_rfl
theorem half15 (R : Res) (k_p : Res.le (.mk (Value.int IntKind.u16 (F.bxor IntKind.u16 (c / 16) 63375)) [] []) R) : CallSpec (Try.prog) (39) ([Value.int IntKind.u16 c]) ([]) R := by
  exact (CallSpec.id (go_ok (exec_ok tnamed tcalm tmixed _ _ _ _) (half15_p c hc hk ) (aC (congrArg (Value.int _) (Int.fdiv_eq_ediv_of_nonneg _ (by omega))) (aC (hk) aN)))).le (k_p )
end
end Go.Proofs.Ytbolppjlaipfjaa.Ex
end
section
set_option linter.unusedSectionVars false
set_option linter.unusedSimpArgs false
set_option linter.unusedVariables false
namespace Go.Proofs.Ytbolppjlaipfjaa.Ex
open Go
set_option linter.unusedVariables false
def F.tab (r : Int) : Int := ([0, 4225, 8450, 12675, 16900, 21125, 25350, 29575, 33800, 38025, 42250, 46475, 50700, 54925, 59150, 63375] : List Int).getD r.toNat 0
def F.half (c : Int) : Int := F.bxor .u16 (c / 16) (F.tab (c % 16))
def F.step1 (c : Int) : Int := if c % 2 = 1 then F.bxor .u16 (c / 2) 33800 else c / 2
def F.steps : Nat → Int → Int
  | 0, c => c
  | n + 1, c => F.steps n (F.step1 c)
def F.u16 (c : Int) : Prop := 0 ≤ c ∧ c ≤ 65535
theorem u16_wrap (n : Int) : IntKind.u16.wrap n = n % 65536 := by simp [IntKind.wrap, IntKind.bits, IntKind.signed]
theorem bxor_u16 (a b : Int) : F.u16 (F.bxor .u16 a b) := by
  unfold F.bxor F.u16
  rw [u16_wrap]
  omega
theorem bxor_nat {a b : Nat} (ha : a < 65536) (hb : b < 65536) : F.bxor .u16 a b = ((a ^^^ b : Nat) : Int) := by
  have hx : a ^^^ b < 2 ^ 16 := Nat.xor_lt_two_pow (by omega) (by omega)
  unfold F.bxor
  have e : IntKind.u16.bits = 16 := rfl
  rw [e, u16_wrap, BitVec.toNat_xor, BitVec.ofInt_natCast, BitVec.ofInt_natCast, BitVec.toNat_ofNat, BitVec.toNat_ofNat, Nat.mod_eq_of_lt (by omega), Nat.mod_eq_of_lt (by omega)]
  omega
theorem band_15 {c : Int} (h : F.u16 c) : F.band .u16 c 15 = c % 16 := by
  obtain ⟨n, rfl⟩ := Int.eq_ofNat_of_zero_le h.1
  have hn : n < 65536 := by have := h.2; omega
  unfold F.band
  have e : IntKind.u16.bits = 16 := rfl
  have e15 : (15 : Int) = ((15 : Nat) : Int) := rfl
  rw [e, u16_wrap, BitVec.toNat_and, e15, BitVec.ofInt_natCast, BitVec.ofInt_natCast, BitVec.toNat_ofNat, BitVec.toNat_ofNat, Nat.mod_eq_of_lt (by omega)]
  have e16 : (15 % 2 ^ 16 : Nat) = 2 ^ 4 - 1 := by decide
  rw [e16, Nat.and_two_pow_sub_one_eq_mod]
  omega
theorem half_told {c : Int} (h : 0 ≤ c ∧ c ≤ 65535) : CallSpec Try.prog 39 [.int .u16 c] [] ⟨.int .u16 (F.half c), [], []⟩ := by
  have hb := band_15 h
  have hr : ∀ {r : Int}, c % 16 = r → Value.int .u16 (F.band .u16 c 15) = .int .u16 r := fun h => by rw [hb, h]
  have fin : ∀ {r t : Int}, c % 16 = r → F.tab r = t → Res.le ⟨.int .u16 (F.bxor .u16 (c / 16) t), [], []⟩ ⟨.int .u16 (F.half c), [], []⟩ := fun h1 h2 => by
    unfold F.half
    rw [h1, h2]
    exact ⟨rfl, rfl, fun j hj => hj⟩
  have cs : c % 16 = 0 ∨ c % 16 = 1 ∨ c % 16 = 2 ∨ c % 16 = 3 ∨ c % 16 = 4 ∨ c % 16 = 5 ∨ c % 16 = 6 ∨ c % 16 = 7 ∨ c % 16 = 8 ∨ c % 16 = 9 ∨ c % 16 = 10 ∨ c % 16 = 11 ∨ c % 16 = 12 ∨ c % 16 = 13 ∨ c % 16 = 14 ∨ c % 16 = 15 := by omega
  rcases cs with k | k | k | k | k | k | k | k | k | k | k | k | k | k | k | k
  · exact half0 c h (hr k) _ (fin k rfl)
  · exact half1 c h (hr k) _ (fin k rfl)
  · exact half2 c h (hr k) _ (fin k rfl)
  · exact half3 c h (hr k) _ (fin k rfl)
  · exact half4 c h (hr k) _ (fin k rfl)
  · exact half5 c h (hr k) _ (fin k rfl)
  · exact half6 c h (hr k) _ (fin k rfl)
  · exact half7 c h (hr k) _ (fin k rfl)
  · exact half8 c h (hr k) _ (fin k rfl)
  · exact half9 c h (hr k) _ (fin k rfl)
  · exact half10 c h (hr k) _ (fin k rfl)
  · exact half11 c h (hr k) _ (fin k rfl)
  · exact half12 c h (hr k) _ (fin k rfl)
  · exact half13 c h (hr k) _ (fin k rfl)
  · exact half14 c h (hr k) _ (fin k rfl)
  · exact half15 c h (hr k) _ (fin k rfl)
theorem step1_u16 {c : Int} (h : F.u16 c) : F.u16 (F.step1 c) := by
  unfold F.step1
  split
  · exact bxor_u16 _ _
  · unfold F.u16 at *; omega
theorem steps_u16 : ∀ (n : Nat) {c : Int}, F.u16 c → F.u16 (F.steps n c)
  | 0, _, h => h
  | n + 1, _, h => steps_u16 n (step1_u16 h)
theorem radd_rounds : ∀ (k : Nat) (i c : Int), F.u16 c → 0 ≤ i → i ≤ 8 → 8 - i = k → LoopSpec Try.prog 0 radd_loop (frRadd c i) [] ⟨.exit 0, frRadd (F.steps k c) 8, [], []⟩
  | 0, i, c, hc, h0, h1, hk => by
    have : i = 8 := by omega
    subst this
    refine .last (radd_round c 8 hc ⟨by omega, by omega⟩ _ (fun h => absurd h (by omega)) (fun h => absurd h (by omega)) (fun _ => ⟨rfl, rfl, rfl, fun j hj => hj⟩)) (by intro h; cases h)
  | k + 1, i, c, hc, h0, h1, hk => by
    refine .more (o1 := ⟨.normal, frRadd (F.step1 c) (i + 1), [], []⟩) (radd_round c i hc ⟨h0, h1⟩ _ (fun _ h => ⟨rfl, by unfold F.step1; rw [if_pos h]; rfl, rfl, fun j hj => hj⟩) (fun _ h => ⟨rfl, by unfold F.step1; rw [if_neg h]; rfl, rfl, fun j hj => hj⟩) (fun h => absurd (show i < 8 by omega) h)) rfl
      (radd_rounds k (i + 1) (F.step1 c) (step1_u16 hc) (by omega) (by omega) (by omega)) (fun j hj => by cases hj)
theorem radd_told {c : Int} (h : F.u16 c) : CodeSpec Try.prog 0 radd_loopC (frRadd c 0) [] ⟨.exit 0, frRadd (F.steps 8 c) 8, [], []⟩ := (radd_rounds 8 0 c h (by omega) (by omega) (by omega)).code
def stepN (n : Nat) : Nat := if n % 2 = 1 then (n / 2) ^^^ 33800 else n / 2
theorem step1_nat {n : Nat} (h : n < 65536) : F.step1 (n : Int) = (stepN n : Nat) := by
  unfold F.step1 stepN
  by_cases k : n % 2 = 1
  · rw [if_pos (by omega), if_pos k]
    have e : ((n : Int) / 2) = ((n / 2 : Nat) : Int) := by omega
    rw [e]
    exact bxor_nat (b := 33800) (by omega) (by omega)
  · rw [if_neg (by omega), if_neg k]; omega
theorem stepN_lt {n : Nat} (h : n < 65536) : stepN n < 65536 := by
  unfold stepN
  split
  · exact Nat.xor_lt_two_pow (n := 16) (by omega) (by omega)
  · omega
theorem stepN_xor (h y : Nat) : stepN ((2 * h) ^^^ y) = h ^^^ stepN y := by
  have e1 : ((2 * h) ^^^ y) % 2 = y % 2 := by
    have := Nat.xor_mod_two_pow (a := 2 * h) (b := y) (n := 1)
    rw [Nat.pow_one] at this
    rw [this]
    have : 2 * h % 2 = 0 := by omega
    rw [this, Nat.zero_xor]
  have e2 : ((2 * h) ^^^ y) / 2 = h ^^^ (y / 2) := by
    have := Nat.xor_div_two_pow (a := 2 * h) (b := y) (n := 1)
    rw [Nat.pow_one] at this
    rw [this]
    have : 2 * h / 2 = h := by omega
    rw [this]
  unfold stepN
  rw [e1, e2]
  split
  · rw [Nat.xor_assoc]
  · rfl
end Go.Proofs.Ytbolppjlaipfjaa.Ex
end
section
set_option linter.unusedSectionVars false
set_option linter.unusedSimpArgs false
set_option linter.unusedVariables false
namespace Go.Proofs.Ytbolppjlaipfjaa.Ex
open Go
set_option linter.unusedVariables false
theorem xor_split (q r : Nat) (hr : r < 16) : (16 * q) ^^^ r = 16 * q + r := by
  have e1 : ((16 * q) ^^^ r) / 2 ^ 4 = q := by
    rw [Nat.xor_div_two_pow]
    have h1 : 16 * q / 2 ^ 4 = q := by omega
    have h2 : r / 2 ^ 4 = 0 := by omega
    rw [h1, h2, Nat.xor_zero]
  have e2 : ((16 * q) ^^^ r) % 2 ^ 4 = r := by
    rw [Nat.xor_mod_two_pow]
    have h1 : 16 * q % 2 ^ 4 = 0 := by omega
    have h2 : r % 2 ^ 4 = r := by omega
    rw [h1, h2, Nat.zero_xor]
  have := Nat.div_add_mod ((16 * q) ^^^ r) (2 ^ 4)
  rw [e1, e2] at this
  omega
theorem tab_steps : ∀ r : Nat, r < 16 → F.tab (r : Int) = (stepN (stepN (stepN (stepN r))) : Nat) := by decide
theorem stepN4 (q r : Nat) : stepN (stepN (stepN (stepN ((16 * q) ^^^ r)))) = q ^^^ stepN (stepN (stepN (stepN r))) := by
  have h1 : 16 * q = 2 * (2 * (2 * (2 * q))) := by omega
  rw [h1, stepN_xor, stepN_xor, stepN_xor, stepN_xor]
theorem steps4_nat {n : Nat} (h : n < 65536) : F.steps 4 (n : Int) = (stepN (stepN (stepN (stepN n))) : Nat) := by
  show F.step1 (F.step1 (F.step1 (F.step1 (n : Int)))) = _
  rw [step1_nat h, step1_nat (stepN_lt h), step1_nat (stepN_lt (stepN_lt h)), step1_nat (stepN_lt (stepN_lt (stepN_lt h)))]
theorem half_steps {c : Int} (h : F.u16 c) : F.half c = F.steps 4 c := by
  obtain ⟨n, rfl⟩ := Int.eq_ofNat_of_zero_le h.1
  have hn : n < 65536 := by have := h.2; omega
  rw [steps4_nat hn]
  have e : n = (16 * (n / 16)) ^^^ (n % 16) := by rw [xor_split _ _ (by omega)]; omega
  have e1 : stepN (stepN (stepN (stepN n))) = (n / 16) ^^^ stepN (stepN (stepN (stepN (n % 16)))) := by
    have := stepN4 (n / 16) (n % 16)
    rw [← e] at this
    exact this
  rw [e1]
  unfold F.half
  have hc : ((n : Int) % 16) = ((n % 16 : Nat) : Int) := by omega
  have hd : ((n : Int) / 16) = ((n / 16 : Nat) : Int) := by omega
  rw [hc, hd, tab_steps _ (by omega)]
  have hs : ∀ m : Nat, m < 65536 → stepN m < 65536 := fun m => stepN_lt
  exact bxor_nat (by omega) (hs _ (hs _ (hs _ (hs _ (by omega)))))
def F.add (c b : Int) : Int := F.steps 8 (F.bxor .u16 c b)
theorem add_u16 (c b : Int) : F.u16 (F.add c b) := steps_u16 8 (bxor_u16 c b)
theorem half_half (c b : Int) : F.half (F.half (F.bxor .u16 c b)) = F.add c b := by
  have h := bxor_u16 c b
  rw [half_steps h, half_steps (steps_u16 4 h)]
  rfl
end Go.Proofs.Ytbolppjlaipfjaa.Ex
end
section
set_option linter.unusedSectionVars false
set_option linter.unusedSimpArgs false
set_option linter.unusedVariables false
namespace Go.Proofs.Ytbolppjlaipfjaa.Ex
open Go
set_option linter.unusedVariables false
section
variable (c b : Int) (hc : 0 ≤ c ∧ c ≤ 65535) (hb : 0 ≤ b ∧ b ≤ 255)
include c b hc hb
theorem radd_ok_p : go (exec (Try.prog) (3) (33) ([Value.int IntKind.u16 c, .int .u8 b]) ([])) [(5, Itm.val (Value.int IntKind.u16 b)), (5, Itm.loop [0, 5] (Out.mk (Xt.exit 0) (frOf 24 [(0, Value.int IntKind.u16 (F.steps 8 (F.bxor IntKind.u16 c b))), (5, .int .i64 8)]) [] []))] = some (.mk (Value.int IntKind.u16 (F.steps 8 (F.bxor IntKind.u16 c b))) [] [], true, [Value.int IntKind.u16 (IntKind.wrap IntKind.u16 b) = Value.int IntKind.u16 b, CodeSpec Try.prog 0 radd_loopC (frOf 24 [(0, Value.int IntKind.u16 (F.bxor IntKind.u16 c b)), (5, .int .i64 0)]) [] (Out.mk (Xt.exit 0) (frOf 24 [(0, Value.int IntKind.u16 (F.steps 8 (F.bxor IntKind.u16 c b))), (5, .int .i64 8)]) [] [])]) := by kernel_rfl
theorem radd_ok (R : Res) (k_p : Res.le (.mk (Value.int IntKind.u16 (F.steps 8 (F.bxor IntKind.u16 c b))) [] []) R) : CallSpec (Try.prog) (33) ([Value.int IntKind.u16 c, .int .u8 b]) ([]) R := by
  exact (CallSpec.id (go_ok (exec_ok tnamed tcalm tmixed _ _ _ _) (radd_ok_p c b hc hb ) (aC (congrArg (Value.int _) (Go.IntWalk.u16_in _ (by omega))) (aC ((radd_told (bxor_u16 _ _))) aN)))).le (k_p )
end
section
variable (c b : Int) (hc : 0 ≤ c ∧ c ≤ 65535) (hb : 0 ≤ b ∧ b ≤ 255)
include c b hc hb
theorem padd_ok_p : go (exec (Try.prog) (3) (34) ([Value.int IntKind.u16 c, .int .u8 b]) ([])) [(5, Itm.val (Value.int IntKind.u16 b)), (1, .call (.mk (Value.int IntKind.u16 (F.half (F.bxor IntKind.u16 c b))) [] [])), (2, .call (.mk (Value.int IntKind.u16 (F.half (F.half (F.bxor IntKind.u16 c b)))) [] []))] = some (.mk (Value.int IntKind.u16 (F.half (F.half (F.bxor IntKind.u16 c b)))) [] [], true, [Value.int IntKind.u16 (IntKind.wrap IntKind.u16 b) = Value.int IntKind.u16 b, CallSpec Try.prog 39 [Value.int IntKind.u16 (F.bxor IntKind.u16 c b)] [] (.mk (Value.int IntKind.u16 (F.half (F.bxor IntKind.u16 c b))) [] []), CallSpec Try.prog 39 [Value.int IntKind.u16 (F.half (F.bxor IntKind.u16 c b))] [] (.mk (Value.int IntKind.u16 (F.half (F.half (F.bxor IntKind.u16 c b)))) [] [])]) := by kernel_rfl
theorem padd_ok (R : Res) (k_p : Res.le (.mk (Value.int IntKind.u16 (F.half (F.half (F.bxor IntKind.u16 c b)))) [] []) R) : CallSpec (Try.prog) (34) ([Value.int IntKind.u16 c, .int .u8 b]) ([]) R := by
  exact (CallSpec.id (go_ok (exec_ok tnamed tcalm tmixed _ _ _ _) (padd_ok_p c b hc hb ) (aC (congrArg (Value.int _) (Go.IntWalk.u16_in _ (by omega))) (aC ((half_told (bxor_u16 _ _))) (aC ((half_told (bxor_u16 _ _))) aN))))).le (k_p )
end
end Go.Proofs.Ytbolppjlaipfjaa.Ex
end
section
set_option linter.unusedSectionVars false
set_option linter.unusedSimpArgs false
set_option linter.unusedVariables false
namespace Go.Proofs.Ytbolppjlaipfjaa.Ex
open Go
set_option linter.unusedVariables false
theorem radd_done {c b : Int} (hc : F.u16 c) (hb : 0 ≤ b ∧ b ≤ 255) : CallSpec Try.prog 33 [.int .u16 c, .int .u8 b] [] ⟨.int .u16 (F.add c b), [], []⟩ := radd_ok c b hc hb _ ⟨rfl, rfl, fun j hj => hj⟩
theorem padd_done {c b : Int} (hc : F.u16 c) (hb : 0 ≤ b ∧ b ≤ 255) : CallSpec Try.prog 34 [.int .u16 c, .int .u8 b] [] ⟨.int .u16 (F.add c b), [], []⟩ := padd_ok c b hc hb _ (by rw [half_half]; exact ⟨rfl, rfl, fun j hj => hj⟩)
theorem byte_le (b : UInt8) : 0 ≤ ((b.toNat : Nat) : Int) ∧ ((b.toNat : Nat) : Int) ≤ 255 := by
  have := b.toNat_lt
  omega
end Go.Proofs.Ytbolppjlaipfjaa.Ex
end
section
set_option linter.unusedSectionVars false
set_option linter.unusedSimpArgs false
set_option linter.unusedVariables false
namespace Go.Proofs.Ytbolppjlaipfjaa.Ex
open Go
set_option linter.unusedVariables false
noncomputable def rsum_loop : Code := loopAt Try.prog 25 0
theorem rsum_loop_calm : calmC rsum_loop = true := loopAt_calm tcalm 31 0
noncomputable def rsum_loopC : Code := .loop rsum_loop
noncomputable def psum_loop : Code := loopAt Try.prog 27 0
theorem psum_loop_calm : calmC psum_loop = true := loopAt_calm tcalm 30 0
noncomputable def psum_loopC : Code := .loop psum_loop
def frRsum (s : ByteArray) (c i : Int) : Fr := frOf 17 [(0, .string s), (3, .int .u16 c), (4, .int .i64 i)]
def frPsum (s : ByteArray) (c n i : Int) : Fr := frOf 17 [(0, .string s), (3, .int .u16 c), (6, .int .i64 n), (7, .int .i64 i)]
section
variable (s : ByteArray) (c i : Int) (hc : F.u16 c) (hs : ByteArray.size s ≤ 9223372036854775806) (hi : 0 ≤ i ∧ i ≤ (↑(ByteArray.size s) : Int))
include s c i hc hs hi
theorem rsum_round_pt : go (body (Try.prog) (3) (0) (3) (fun x => [0, 3, 4]) (rsum_loop) (frRsum s c i) ([])) [(5, .dec true), (3, Itm.must), (1, .call (.mk (Value.int IntKind.u16 (F.add c (↑(UInt8.toNat (List.getD (Array.toList (ByteArray.data s)) (Int.toNat i) 0)) : Int))) [] [])), (5, Itm.val (.int .i64 (i + 1)))] = some (Out.mk Xt.normal (frOf 17 [(0, .string s), (3, Value.int IntKind.u16 (F.add c (↑(UInt8.toNat (List.getD (Array.toList (ByteArray.data s)) (Int.toNat i) 0)) : Int))), (4, .int .i64 (i + 1))]) [] [], true, [decide (i < (↑(ByteArray.size s) : Int)) = true, inside i (ByteArray.size s) = true, CallSpec Try.prog 33 [Value.int IntKind.u16 c, .int .u8 (↑(UInt8.toNat (List.getD (Array.toList (ByteArray.data s)) (Int.toNat i) 0)) : Int)] [] (.mk (Value.int IntKind.u16 (F.add c (↑(UInt8.toNat (List.getD (Array.toList (ByteArray.data s)) (Int.toNat i) 0)) : Int))) [] []), Value.int .i64 (IntKind.wrap .i64 (i + 1)) = .int .i64 (i + 1)]) := by kernel_rfl
theorem rsum_round_pf : go (body (Try.prog) (3) (0) (3) (fun x => [0, 3, 4]) (rsum_loop) (frRsum s c i) ([])) [(5, .dec false)] = some (Out.mk (Xt.exit 0) (frOf 17 [(0, .string s), (3, Value.int IntKind.u16 c), (4, .int .i64 i)]) [] [], true, [decide (i < (↑(ByteArray.size s) : Int)) = false]) := by kernel_rfl
theorem rsum_round (R : Out) (k_pt : (h0 : i < (↑(ByteArray.size s) : Int)) → Out.le (Out.mk Xt.normal (frOf 17 [(0, .string s), (3, Value.int IntKind.u16 (F.add c (↑(UInt8.toNat (List.getD (Array.toList (ByteArray.data s)) (Int.toNat i) 0)) : Int))), (4, .int .i64 (i + 1))]) [] []) R) (k_pf : (h0 : ¬ (i < (↑(ByteArray.size s) : Int))) → Out.le (Out.mk (Xt.exit 0) (frOf 17 [(0, .string s), (3, Value.int IntKind.u16 c), (4, .int .i64 i)]) [] []) R) : CodeSpec (Try.prog) (0) (rsum_loop) (frRsum s c i) ([]) R := by
  by_cases h0 : i < (↑(ByteArray.size s) : Int)
  · exact (CodeSpec.id (go_ok (body_ok tnamed tcalm tmixed _ _ _ _ _ _ rsum_loop_calm) (rsum_round_pt s c i hc hs hi ) (aC (dTq h0) (aC (inside_of (by omega)) (aC ((radd_done hc (byte_le _))) (aC (congrArg (Value.int _) (Go.IntWalk.i64_in _ (by omega))) aN)))))).le (k_pt h0)
  · exact (CodeSpec.id (go_ok (body_ok tnamed tcalm tmixed _ _ _ _ _ _ rsum_loop_calm) (rsum_round_pf s c i hc hs hi ) (aC (dFq h0) aN))).le (k_pf h0)
end
section
variable (s : ByteArray) (c i : Int) (hc : F.u16 c) (hs : ByteArray.size s ≤ 9223372036854775806) (hi : 0 ≤ i ∧ i ≤ (↑(ByteArray.size s) : Int))
include s c i hc hs hi
theorem psum_round_pt : go (body (Try.prog) (3) (0) (3) (fun x => [0, 3, 6, 7]) (psum_loop) (frPsum s c (↑(ByteArray.size s) : Int) i) ([])) [(2, .dec true), (6, Itm.must), (1, .call (.mk (Value.int IntKind.u16 (F.add c (↑(UInt8.toNat (List.getD (Array.toList (ByteArray.data s)) (Int.toNat i) 0)) : Int))) [] [])), (4, Itm.val (.int .i64 (i + 1)))] = some (Out.mk Xt.normal (frOf 17 [(0, .string s), (3, Value.int IntKind.u16 (F.add c (↑(UInt8.toNat (List.getD (Array.toList (ByteArray.data s)) (Int.toNat i) 0)) : Int))), (6, .int .i64 (↑(ByteArray.size s) : Int)), (7, .int .i64 (i + 1))]) [] [], true, [decide (i < (↑(ByteArray.size s) : Int)) = true, inside i (ByteArray.size s) = true, CallSpec Try.prog 34 [Value.int IntKind.u16 c, .int .u8 (↑(UInt8.toNat (List.getD (Array.toList (ByteArray.data s)) (Int.toNat i) 0)) : Int)] [] (.mk (Value.int IntKind.u16 (F.add c (↑(UInt8.toNat (List.getD (Array.toList (ByteArray.data s)) (Int.toNat i) 0)) : Int))) [] []), Value.int .i64 (IntKind.wrap .i64 (i + 1)) = .int .i64 (i + 1)]) := by kernel_rfl
theorem psum_round_pf : go (body (Try.prog) (3) (0) (3) (fun x => [0, 3, 6, 7]) (psum_loop) (frPsum s c (↑(ByteArray.size s) : Int) i) ([])) [(2, .dec false)] = some (Out.mk (Xt.exit 0) (frOf 17 [(0, .string s), (3, Value.int IntKind.u16 c), (6, .int .i64 (↑(ByteArray.size s) : Int)), (7, .int .i64 i)]) [] [], true, [decide (i < (↑(ByteArray.size s) : Int)) = false]) := by kernel_rfl
theorem psum_round (R : Out) (k_pt : (h0 : i < (↑(ByteArray.size s) : Int)) → Out.le (Out.mk Xt.normal (frOf 17 [(0, .string s), (3, Value.int IntKind.u16 (F.add c (↑(UInt8.toNat (List.getD (Array.toList (ByteArray.data s)) (Int.toNat i) 0)) : Int))), (6, .int .i64 (↑(ByteArray.size s) : Int)), (7, .int .i64 (i + 1))]) [] []) R) (k_pf : (h0 : ¬ (i < (↑(ByteArray.size s) : Int))) → Out.le (Out.mk (Xt.exit 0) (frOf 17 [(0, .string s), (3, Value.int IntKind.u16 c), (6, .int .i64 (↑(ByteArray.size s) : Int)), (7, .int .i64 i)]) [] []) R) : CodeSpec (Try.prog) (0) (psum_loop) (frPsum s c (↑(ByteArray.size s) : Int) i) ([]) R := by
  by_cases h0 : i < (↑(ByteArray.size s) : Int)
  · exact (CodeSpec.id (go_ok (body_ok tnamed tcalm tmixed _ _ _ _ _ _ psum_loop_calm) (psum_round_pt s c i hc hs hi ) (aC (dTq h0) (aC (inside_of (by omega)) (aC ((padd_done hc (byte_le _))) (aC (congrArg (Value.int _) (Go.IntWalk.i64_in _ (by omega))) aN)))))).le (k_pt h0)
  · exact (CodeSpec.id (go_ok (body_ok tnamed tcalm tmixed _ _ _ _ _ _ psum_loop_calm) (psum_round_pf s c i hc hs hi ) (aC (dFq h0) aN))).le (k_pf h0)
end
end Go.Proofs.Ytbolppjlaipfjaa.Ex
end
section
set_option linter.unusedSectionVars false
set_option linter.unusedSimpArgs false
set_option linter.unusedVariables false
namespace Go.Proofs.Ytbolppjlaipfjaa.Ex
open Go
set_option linter.unusedVariables false
def F.byte (s : ByteArray) (n : Nat) : UInt8 := s.data.toList.getD n 0
def F.sumTo (s : ByteArray) (n : Nat) : Int := (s.data.toList.take n).foldl (fun c b => F.add c ((b.toNat : Nat) : Int)) 65535
def F.sum (s : ByteArray) : Int := F.sumTo s s.size
theorem fold_u16 : ∀ (l : List UInt8) {c : Int}, F.u16 c → F.u16 (l.foldl (fun c b => F.add c ((b.toNat : Nat) : Int)) c)
  | [], _, h => h
  | b :: l, c, _ => fold_u16 l (add_u16 c _)
theorem sumTo_u16 (s : ByteArray) (n : Nat) : F.u16 (F.sumTo s n) := fold_u16 _ (by unfold F.u16; omega)
theorem sum_u16 (s : ByteArray) : F.u16 (F.sum s) := sumTo_u16 s _
theorem size_list (s : ByteArray) : s.data.toList.length = s.size := Array.length_toList
theorem sumTo_succ {s : ByteArray} {n : Nat} (h : n < s.size) : F.sumTo s (n + 1) = F.add (F.sumTo s n) (((F.byte s n).toNat : Nat) : Int) := by
  have hn : n < s.data.toList.length := by rw [size_list]; exact h
  unfold F.sumTo F.byte
  rw [List.take_add_one, List.getD_eq_getElem?_getD, List.getElem?_eq_getElem hn, List.foldl_append]
  rfl
theorem rsum_rounds {s : ByteArray} (hs : s.size ≤ 9223372036854775806) : ∀ (k j : Nat), j ≤ s.size → s.size - j = k → LoopSpec Try.prog 0 rsum_loop (frRsum s (F.sumTo s j) j) [] ⟨.exit 0, frRsum s (F.sum s) s.size, [], []⟩
  | 0, j, h1, hk => by
    have : j = s.size := by omega
    subst this
    exact .last (rsum_round s _ _ (sumTo_u16 s _) hs ⟨by omega, by omega⟩ _ (fun h => absurd h (by omega)) (fun _ => ⟨rfl, rfl, rfl, fun j hj => hj⟩)) (by intro h; cases h)
  | k + 1, j, h1, hk => by
    have next := rsum_rounds hs k (j + 1) (by omega) (by omega)
    rw [sumTo_succ (by omega)] at next
    exact .more (o1 := ⟨.normal, frRsum s (F.add (F.sumTo s j) (((F.byte s j).toNat : Nat) : Int)) ((j + 1 : Nat) : Int), [], []⟩) (rsum_round s _ _ (sumTo_u16 s _) hs ⟨by omega, by omega⟩ _ (fun _ => ⟨rfl, rfl, rfl, fun j hj => hj⟩) (fun h => absurd (show (j : Int) < (s.size : Int) by omega) h)) rfl next (fun j hj => by cases hj)
theorem psum_rounds {s : ByteArray} (hs : s.size ≤ 9223372036854775806) : ∀ (k j : Nat), j ≤ s.size → s.size - j = k → LoopSpec Try.prog 0 psum_loop (frPsum s (F.sumTo s j) s.size j) [] ⟨.exit 0, frPsum s (F.sum s) s.size s.size, [], []⟩
  | 0, j, h1, hk => by
    have : j = s.size := by omega
    subst this
    exact .last (psum_round s _ _ (sumTo_u16 s _) hs ⟨by omega, by omega⟩ _ (fun h => absurd h (by omega)) (fun _ => ⟨rfl, rfl, rfl, fun j hj => hj⟩)) (by intro h; cases h)
  | k + 1, j, h1, hk => by
    have next := psum_rounds hs k (j + 1) (by omega) (by omega)
    rw [sumTo_succ (by omega)] at next
    exact .more (o1 := ⟨.normal, frPsum s (F.add (F.sumTo s j) (((F.byte s j).toNat : Nat) : Int)) s.size ((j + 1 : Nat) : Int), [], []⟩) (psum_round s _ _ (sumTo_u16 s _) hs ⟨by omega, by omega⟩ _ (fun _ => ⟨rfl, rfl, rfl, fun j hj => hj⟩) (fun h => absurd (show (j : Int) < (s.size : Int) by omega) h)) rfl next (fun j hj => by cases hj)
theorem rsum_told {s : ByteArray} (hs : s.size ≤ 9223372036854775806) : CodeSpec Try.prog 0 rsum_loopC (frRsum s 65535 0) [] ⟨.exit 0, frRsum s (F.sum s) s.size, [], []⟩ := (rsum_rounds hs s.size 0 (Nat.zero_le _) (by omega)).code
theorem psum_told {s : ByteArray} (hs : s.size ≤ 9223372036854775806) : CodeSpec Try.prog 0 psum_loopC (frPsum s 65535 s.size 0) [] ⟨.exit 0, frPsum s (F.sum s) s.size s.size, [], []⟩ := (psum_rounds hs s.size 0 (Nat.zero_le _) (by omega)).code
end Go.Proofs.Ytbolppjlaipfjaa.Ex
end
section
set_option linter.unusedSectionVars false
set_option linter.unusedSimpArgs false
set_option linter.unusedVariables false
namespace Go.Proofs.Ytbolppjlaipfjaa.Ex
open Go
set_option linter.unusedVariables false
section
variable (s : ByteArray) (hs : ByteArray.size s ≤ 9223372036854775806)
include s hs
theorem rsum_ok_p : go (exec (Try.prog) (3) (25) ([.string s]) ([])) [(7, Itm.loop [0, 3, 4] (Out.mk (Xt.exit 0) (frOf 17 [(0, .string s), (3, Value.int IntKind.u16 (F.sum s)), (4, .int .i64 (↑(ByteArray.size s) : Int))]) [] []))] = some (.mk (Value.int IntKind.u16 (F.sum s)) [] [], true, [CodeSpec Try.prog 0 rsum_loopC (frOf 17 [(0, .string s), (3, Value.int IntKind.u16 65535), (4, .int .i64 0)]) [] (Out.mk (Xt.exit 0) (frOf 17 [(0, .string s), (3, Value.int IntKind.u16 (F.sum s)), (4, .int .i64 (↑(ByteArray.size s) : Int))]) [] [])]) := by kernel_rfl
theorem rsum_ok (R : Res) (k_p : Res.le (.mk (Value.int IntKind.u16 (F.sum s)) [] []) R) : CallSpec (Try.prog) (25) ([.string s]) ([]) R := by
  exact (CallSpec.id (go_ok (exec_ok tnamed tcalm tmixed _ _ _ _) (rsum_ok_p s hs ) (aC ((rsum_told hs)) aN))).le (k_p )
end
section
variable (s : ByteArray) (hs : ByteArray.size s ≤ 9223372036854775806)
include s hs
theorem psum_ok_p : go (exec (Try.prog) (3) (27) ([.string s]) ([])) [(9, Itm.loop [0, 3, 6, 7] (Out.mk (Xt.exit 0) (frOf 17 [(0, .string s), (3, Value.int IntKind.u16 (F.sum s)), (6, .int .i64 (↑(ByteArray.size s) : Int)), (7, .int .i64 (↑(ByteArray.size s) : Int))]) [] []))] = some (.mk (Value.int IntKind.u16 (F.sum s)) [] [], true, [CodeSpec Try.prog 0 psum_loopC (frOf 17 [(0, .string s), (3, Value.int IntKind.u16 65535), (6, .int .i64 (↑(ByteArray.size s) : Int)), (7, .int .i64 0)]) [] (Out.mk (Xt.exit 0) (frOf 17 [(0, .string s), (3, Value.int IntKind.u16 (F.sum s)), (6, .int .i64 (↑(ByteArray.size s) : Int)), (7, .int .i64 (↑(ByteArray.size s) : Int))]) [] [])]) := by kernel_rfl
theorem psum_ok (R : Res) (k_p : Res.le (.mk (Value.int IntKind.u16 (F.sum s)) [] []) R) : CallSpec (Try.prog) (27) ([.string s]) ([]) R := by
  exact (CallSpec.id (go_ok (exec_ok tnamed tcalm tmixed _ _ _ _) (psum_ok_p s hs ) (aC ((psum_told hs)) aN))).le (k_p )
end
end Go.Proofs.Ytbolppjlaipfjaa.Ex
end
section
set_option linter.unusedSectionVars false
set_option linter.unusedSimpArgs false
set_option linter.unusedVariables false
namespace Go.Proofs.Ytbolppjlaipfjaa.Ex
open Go
set_option linter.unusedVariables false
section
variable (sn : Int)
include sn
theorem wid_ok_pt : go (exec (Try.prog) (8) (20) ([.int .u8 sn]) ([])) [(8, .dec true)] = some (.mk ((zSB 0 4 4)) [.own 3 [.int .i64 16, .int .i64 (-16), .int .i64 (-16), .int .i64 (-16)]] [], true, [decide (sn = 1) = true]) := by kernel_rfl
theorem wid_ok_pft : go (exec (Try.prog) (8) (20) ([.int .u8 sn]) ([])) [(8, .dec false), (3, .dec true)] = some (.mk ((zSB 0 2 2)) [.own 3 [.int .i64 (-32), .int .i64 (-32)]] [], true, [decide (sn = 1) = false, decide (sn = 2) = true]) := by kernel_rfl
theorem wid_ok_pfft : go (exec (Try.prog) (8) (20) ([.int .u8 sn]) ([])) [(8, .dec false), (3, .dec false), (3, .dec true)] = some (.mk ((zSB 0 4 4)) [.own 3 [.int .i64 (-32), .int .i64 (-32), .int .i64 (-32), .int .i64 (-32)]] [], true, [decide (sn = 1) = false, decide (sn = 2) = false, decide (sn = 3) = true]) := by kernel_rfl
theorem wid_ok_pffft : go (exec (Try.prog) (8) (20) ([.int .u8 sn]) ([])) [(8, .dec false), (3, .dec false), (3, .dec false), (3, .dec true)] = some (.mk ((zSB 0 5 5)) [.own 3 [.int .i64 (-16), .int .i64 (-16), .int .i64 (-16), .int .i64 (-16), .int .i64 8]] [], true, [decide (sn = 1) = false, decide (sn = 2) = false, decide (sn = 3) = false, decide (sn = 4) = true]) := by kernel_rfl
theorem wid_ok_pfffft : go (exec (Try.prog) (8) (20) ([.int .u8 sn]) ([])) [(8, .dec false), (3, .dec false), (3, .dec false), (3, .dec false), (3, .dec true)] = some (.mk ((zSB 0 2 2)) [.own 3 [.int .i64 8, .int .i64 (-32)]] [], true, [decide (sn = 1) = false, decide (sn = 2) = false, decide (sn = 3) = false, decide (sn = 4) = false, decide (sn = 5) = true]) := by kernel_rfl
theorem wid_ok_pfffff : go (exec (Try.prog) (8) (20) ([.int .u8 sn]) ([])) [(8, .dec false), (3, .dec false), (3, .dec false), (3, .dec false), (3, .dec false)] = some (.mk (zSN) [] [], true, [decide (sn = 1) = false, decide (sn = 2) = false, decide (sn = 3) = false, decide (sn = 4) = false, decide (sn = 5) = false]) := by kernel_rfl
theorem wid_ok (R : Res) (k_pt : (h0 : sn = 1) → Res.le (.mk ((zSB 0 4 4)) [.own 3 [.int .i64 16, .int .i64 (-16), .int .i64 (-16), .int .i64 (-16)]] []) R) (k_pft : (h0 : ¬ (sn = 1)) → (h1 : sn = 2) → Res.le (.mk ((zSB 0 2 2)) [.own 3 [.int .i64 (-32), .int .i64 (-32)]] []) R) (k_pfft : (h0 : ¬ (sn = 1)) → (h1 : ¬ (sn = 2)) → (h2 : sn = 3) → Res.le (.mk ((zSB 0 4 4)) [.own 3 [.int .i64 (-32), .int .i64 (-32), .int .i64 (-32), .int .i64 (-32)]] []) R) (k_pffft : (h0 : ¬ (sn = 1)) → (h1 : ¬ (sn = 2)) → (h2 : ¬ (sn = 3)) → (h3 : sn = 4) → Res.le (.mk ((zSB 0 5 5)) [.own 3 [.int .i64 (-16), .int .i64 (-16), .int .i64 (-16), .int .i64 (-16), .int .i64 8]] []) R) (k_pfffft : (h0 : ¬ (sn = 1)) → (h1 : ¬ (sn = 2)) → (h2 : ¬ (sn = 3)) → (h3 : ¬ (sn = 4)) → (h4 : sn = 5) → Res.le (.mk ((zSB 0 2 2)) [.own 3 [.int .i64 8, .int .i64 (-32)]] []) R) (k_pfffff : (h0 : ¬ (sn = 1)) → (h1 : ¬ (sn = 2)) → (h2 : ¬ (sn = 3)) → (h3 : ¬ (sn = 4)) → (h4 : ¬ (sn = 5)) → Res.le (.mk (zSN) [] []) R) : CallSpec (Try.prog) (20) ([.int .u8 sn]) ([]) R := by
  by_cases h0 : sn = 1
  · exact (CallSpec.id (go_ok (exec_ok tnamed tcalm tmixed _ _ _ _) (wid_ok_pt sn ) (aC (dTq h0) aN))).le (k_pt h0)
  · by_cases h1 : sn = 2
    · exact (CallSpec.id (go_ok (exec_ok tnamed tcalm tmixed _ _ _ _) (wid_ok_pft sn ) (aC (dFq h0) (aC (dTq h1) aN)))).le (k_pft h0 h1)
    · by_cases h2 : sn = 3
      · exact (CallSpec.id (go_ok (exec_ok tnamed tcalm tmixed _ _ _ _) (wid_ok_pfft sn ) (aC (dFq h0) (aC (dFq h1) (aC (dTq h2) aN))))).le (k_pfft h0 h1 h2)
      · by_cases h3 : sn = 4
        · exact (CallSpec.id (go_ok (exec_ok tnamed tcalm tmixed _ _ _ _) (wid_ok_pffft sn ) (aC (dFq h0) (aC (dFq h1) (aC (dFq h2) (aC (dTq h3) aN)))))).le (k_pffft h0 h1 h2 h3)
        · by_cases h4 : sn = 5
          · exact (CallSpec.id (go_ok (exec_ok tnamed tcalm tmixed _ _ _ _) (wid_ok_pfffft sn ) (aC (dFq h0) (aC (dFq h1) (aC (dFq h2) (aC (dFq h3) (aC (dTq h4) aN))))))).le (k_pfffft h0 h1 h2 h3 h4)
          · exact (CallSpec.id (go_ok (exec_ok tnamed tcalm tmixed _ _ _ _) (wid_ok_pfffff sn ) (aC (dFq h0) (aC (dFq h1) (aC (dFq h2) (aC (dFq h3) (aC (dFq h4) aN))))))).le (k_pfffff h0 h1 h2 h3 h4)
end
end Go.Proofs.Ytbolppjlaipfjaa.Ex
end
section
set_option linter.unusedSectionVars false
set_option linter.unusedSimpArgs false
set_option linter.unusedVariables false
namespace Go.Proofs.Ytbolppjlaipfjaa.Ex
open Go
set_option linter.unusedVariables false
theorem rsum_done {s : ByteArray} (hs : s.size ≤ 9223372036854775806) : CallSpec Try.prog 25 [.string s] [] ⟨.int .u16 (F.sum s), [], []⟩ := rsum_ok s hs _ ⟨rfl, rfl, fun j hj => hj⟩
theorem psum_done {s : ByteArray} (hs : s.size ≤ 9223372036854775806) : CallSpec Try.prog 27 [.string s] [] ⟨.int .u16 (F.sum s), [], []⟩ := psum_ok s hs _ ⟨rfl, rfl, fun j hj => hj⟩
def wds (sn : Int) : List Int := if sn = 1 then [16, -16, -16, -16] else if sn = 2 then [-32, -32] else if sn = 3 then [-32, -32, -32, -32] else if sn = 4 then [-16, -16, -16, -16, 8] else if sn = 5 then [8, -32] else []
theorem wds_ok (sn : Int) : ∀ w ∈ wds sn, okW w := by
  intro w hw
  unfold wds at hw
  unfold okW
  repeat' (split at hw)
  all_goals simp at hw
  all_goals omega
theorem wds_len (sn : Int) : (wds sn).length ≤ 5 := by
  unfold wds
  repeat' split
  all_goals decide
theorem wid_done (sn : Int) : (wds sn = [] → CallSpec Try.prog 20 [.int .u8 sn] [] ⟨slN, [], []⟩) ∧ (wds sn ≠ [] → CallSpec Try.prog 20 [.int .u8 sn] [] ⟨slB 0 (wds sn).length (wds sn).length, [.own 3 (iW (wds sn))], []⟩) := by
  refine ⟨fun h => ?_, fun h => ?_⟩
  · unfold wds at h
    refine wid_ok sn _ (fun h0 => ?_) (fun h0 h1 => ?_) (fun h0 h1 h2 => ?_) (fun h0 h1 h2 h3 => ?_) (fun h0 h1 h2 h3 h4 => ?_) (fun h0 h1 h2 h3 h4 => res_refl)
    · simp [h0] at h
    · simp [h1] at h
    · simp [h2] at h
    · simp [h3] at h
    · simp [h4] at h
  · refine wid_ok sn _ (fun h0 => ?_) (fun h0 h1 => ?_) (fun h0 h1 h2 => ?_) (fun h0 h1 h2 h3 => ?_) (fun h0 h1 h2 h3 h4 => ?_) (fun h0 h1 h2 h3 h4 => ?_)
    · subst h0; exact res_refl
    · subst h1; exact res_refl
    · subst h2; exact res_refl
    · subst h3; exact res_refl
    · subst h4; exact res_refl
    · exact absurd (by unfold wds; simp [h0, h1, h2, h3, h4]) h
def frK (sn : Int) : Nat := 1 + sumW (wds sn)
def frC (sn : Int) (s : ByteArray) : Int := F.sum (s.extract 0 (frK sn))
def frG (sn : Int) (s : ByteArray) : Prop := frK sn + 2 ≤ s.size ∧ (bt s 0 : Int) = sn ∧ (bt s (frK sn) : Int) = IntKind.wrap .u8 (frC sn s) ∧ (bt s (frK sn + 1) : Int) = frC sn s / 256
instance (sn : Int) (s : ByteArray) : Decidable (frG sn s) := inferInstanceAs (Decidable (frK sn + 2 ≤ s.size ∧ (bt s 0 : Int) = sn ∧ (bt s (frK sn) : Int) = IntKind.wrap .u8 (frC sn s) ∧ (bt s (frK sn + 1) : Int) = frC sn s / 256))
def badR : Res := ⟨.tuple #[slN, .int .i64 0, .bool false], [], []⟩
def goodR (sn : Int) (s : ByteArray) : Res := ⟨.tuple #[slB 0 (wds sn).length (wds sn).length, .int .i64 (frK sn + 2 : Nat), .bool true], [.own 3 (iW (rdW (wds sn) s 1))], []⟩
theorem res0_run : go (resA Try.prog frE hpR Try.f22.results.toList) [] = some ([slN, .int .i64 0, .bool false], true, []) := by kernel_rfl
theorem res1_run (vs : List Value) (j : Nat) (n : Int) (b : Bool) : go (resA Try.prog frE (hpE1 vs j n b) Try.f22.results.toList) [] = some ([slB 3 j j, .int .i64 n, .bool b], true, []) := by kernel_rfl
theorem frame_bad {sn : Int} {s : ByteArray} {wr : List Nat} (h : CodeSpec Try.prog 3 cRest (frR sn s) hpR ⟨.ret, frE, hpR, wr⟩) : CallSpec Try.prog 22 [.int .u8 sn, .string s] [] badR :=
  frame_of (hp3 := hpR) (wr3 := []) h rfl (.inl ⟨rfl, rfl⟩) res0_run rfl (by kernel_rfl)
theorem frame_p0 {sn : Int} {s : ByteArray} {wr : List Nat} (h : CodeSpec Try.prog 3 cRest (frR sn s) hpR ⟨.pan early, frE, hpR, wr⟩) : CallSpec Try.prog 22 [.int .u8 sn, .string s] [] badR :=
  frame_of h rfl (.inr ⟨rfl, rgD0_done⟩) res0_run rfl (by kernel_rfl)
theorem frame_p1 {sn : Int} {s : ByteArray} {vs : List Value} {j : Nat} {wr : List Nat} (h : CodeSpec Try.prog 3 cRest (frR sn s) hpR ⟨.pan early, frE, hpE1 vs j 0 false, wr⟩) : CallSpec Try.prog 22 [.int .u8 sn, .string s] [] badR :=
  frame_of h rfl (.inr ⟨rfl, rgD1_done vs j⟩) res0_run rfl (by kernel_rfl)
theorem frame_good {sn : Int} {s : ByteArray} {vs : List Value} {j : Nat} {n : Int} {wr : List Nat} (h : CodeSpec Try.prog 3 cRest (frR sn s) hpR ⟨.ret, frE, hpE1 vs j n true, wr⟩) : CallSpec Try.prog 22 [.int .u8 sn, .string s] [] ⟨.tuple #[slB 0 j j, .int .i64 n, .bool true], [.own 3 vs], []⟩ :=
  frame_of (hp3 := hpE1 vs j n true) (wr3 := []) h rfl (.inl ⟨rfl, rfl⟩) (res1_run vs j n true) rfl (by kernel_rfl)
theorem bt_at (s : ByteArray) (k : Nat) : ((↑(UInt8.toNat (List.getD (Array.toList (ByteArray.data s)) (Int.toNat ((↑k : Int) + 1 - 1)) 0)) : Int)) = (bt s k : Int) := by
  rw [show ((k : Int) + 1 - 1) = (k : Int) by omega, Int.toNat_natCast]; rfl
theorem bt_at2 (s : ByteArray) (k : Nat) : ((↑(UInt8.toNat (List.getD (Array.toList (ByteArray.data s)) (Int.toNat ((↑k : Int) + 1 + 1 - 1)) 0)) : Int)) = (bt s (k + 1) : Int) := by
  rw [show ((k : Int) + 1 + 1 - 1) = ((k + 1 : Nat) : Int) by omega, Int.toNat_natCast]; rfl
theorem frame_done {sn : Int} {s : ByteArray} (hw : wds sn ≠ []) (hs : s.size ≤ 140737488351232) : CallSpec Try.prog 22 [.int .u8 sn, .string s] [] (if frG sn s then goodR sn s else badR) := by
  by_cases h0 : s.size = 0
  · rw [if_neg (by unfold frG; omega)]
    exact frame_p0 (rest_e s sn hs (next_short (k := 0) hs (by omega)) _ ⟨rfl, rfl, rfl, fun j hj => hj⟩)
  have h1 : 1 ≤ s.size ∧ s.size ≤ 140737488351232 := ⟨by omega, hs⟩
  have kW := (wid_done sn).2 hw
  obtain ⟨w, ws, hws⟩ : ∃ w ws, wds sn = w :: ws := by cases e : wds sn with | nil => exact absurd e hw | cons w ws => exact ⟨w, ws, rfl⟩
  have hok := wds_ok sn
  have h5 := wds_len sn
  by_cases hk : 1 + sumW (wds sn) ≤ s.size
  case neg =>
    rw [if_neg (by unfold frG frK; omega)]
    rw [hws] at hk kW hok h5
    rcases w_short0 sn s hs w ws 1 h5 hok h1.1 (by omega) with hL | ⟨vs, j, hL⟩
    · have k := rest_p0 s sn _ (iW (w :: ws)) h1 (iW_len _) kW hL.code
      by_cases hb : (bt s 0 : Int) = sn
      · exact frame_p0 (k ⟨.pan early, frE, hpR, []⟩ (fun h => absurd hb h) (fun _ => ⟨rfl, rfl, rfl, fun j hj => by cases hj⟩))
      · exact frame_bad (k ⟨.ret, frE, hpR, [2, 1, 0]⟩ (fun _ => ⟨rfl, rfl, rfl, fun j hj => hj⟩) (fun h => absurd hb h))
    · have k := rest_p1 s sn _ (iW (w :: ws)) vs j h1 (iW_len _) kW hL.code
      by_cases hb : (bt s 0 : Int) = sn
      · exact frame_p1 (k ⟨.pan early, frE, hpE1 vs j 0 false, [0]⟩ (fun h => absurd hb h) (fun _ => ⟨rfl, rfl, rfl, fun j hj => hj⟩))
      · exact frame_bad (k ⟨.ret, frE, hpR, [2, 1, 0]⟩ (fun _ => ⟨rfl, rfl, rfl, fun j hj => hj⟩) (fun h => absurd hb h))
  have hC : CallSpec Try.prog 27 [.string (s.extract 0 (frK sn))] [] ⟨.int .u16 (frC sn s), [], []⟩ := psum_done (by rw [ByteArray.size_extract]; omega)
  have hu := sum_u16 (s.extract 0 (frK sn))
  have hL : CodeSpec Try.prog 3 lpWC (frW sn s (wds sn).length 0) (hpW0 s 1 (iW (wds sn))) ⟨.exit 0, frW sn s (wds sn).length ((wds sn).length : Nat), hpW1 s (frK sn : Nat) (iW (wds sn)) (iW (rdW (wds sn) s 1)) (wds sn).length, [0]⟩ := by
    have := (w_loop0 sn s hs w ws 1 (by rw [← hws]; exact h5) (by rw [← hws]; exact hok) (by rw [← hws]; exact hk)).code
    rw [← hws, rdW_len] at this
    exact this
  have hk' : frK sn ≤ s.size := hk
  by_cases hb : (bt s 0 : Int) = sn
  case neg =>
    rw [if_neg (by unfold frG; exact fun h => hb h.2.1)]
    rcases Nat.lt_trichotomy s.size (frK sn + 1) with hlt | heq | hgt
    · exact frame_bad (rest_c1 s sn (frC sn s) _ (frK sn) _ _ _ h1 (by omega) (iW_len _) kW hL hC (next_short hs (by omega)) ⟨.ret, frE, hpR, [2, 1, 0]⟩ (fun _ => ⟨rfl, rfl, rfl, fun j hj => hj⟩) (fun h => absurd hb h))
    · by_cases hc : (bt s (frK sn) : Int) = IntKind.wrap .u8 (frC sn s)
      · exact frame_bad (rest_c2 s sn (frC sn s) _ _ (frK sn) _ _ _ h1 (by omega) (iW_len _) kW hL hC hc (next_done hs (by omega)) (next_short (k := frK sn + 1) hs (by omega)) ⟨.ret, frE, hpR, [2, 1, 0]⟩ (fun _ => ⟨rfl, rfl, rfl, fun j hj => hj⟩) (fun h => absurd hb h))
      · exact frame_bad (rest_c3 s sn (frC sn s) _ (frK sn) _ _ _ h1 (by omega) (iW_len _) kW hL hC (by rw [bt_at]; exact hc) ⟨.ret, frE, hpR, [2, 1, 0]⟩ (fun _ => ⟨rfl, rfl, rfl, fun j hj => hj⟩) (fun h => absurd hb h))
    · exact frame_bad (rest_ok s sn (frC sn s) _ (frK sn) _ _ _ h1 (by omega) (iW_len _) hu kW hL hC ⟨.ret, frE, hpR, [2, 1, 0]⟩ (fun _ => ⟨rfl, rfl, rfl, fun j hj => hj⟩) (fun h => absurd hb h) (fun h => absurd hb h) (fun h => absurd hb h))
  rcases Nat.lt_trichotomy s.size (frK sn + 1) with hlt | heq | hgt
  · rw [if_neg (by unfold frG; omega)]
    exact frame_p1 (rest_c1 s sn (frC sn s) _ (frK sn) _ _ _ h1 (by omega) (iW_len _) kW hL hC (next_short hs (by omega)) ⟨.pan early, frE, hpE1 _ _ 0 false, [0]⟩ (fun h => absurd hb h) (fun _ => ⟨rfl, rfl, rfl, fun j hj => hj⟩))
  · rw [if_neg (by unfold frG; omega)]
    by_cases hc : (bt s (frK sn) : Int) = IntKind.wrap .u8 (frC sn s)
    · exact frame_p1 (rest_c2 s sn (frC sn s) _ _ (frK sn) _ _ _ h1 (by omega) (iW_len _) kW hL hC hc (next_done hs (by omega)) (next_short (k := frK sn + 1) hs (by omega)) ⟨.pan early, frE, hpE1 _ _ 0 false, [0]⟩ (fun h => absurd hb h) (fun _ => ⟨rfl, rfl, rfl, fun j hj => hj⟩))
    · exact frame_bad (rest_c3 s sn (frC sn s) _ (frK sn) _ _ _ h1 (by omega) (iW_len _) kW hL hC (by rw [bt_at]; exact hc) ⟨.ret, frE, hpR, [2, 1, 0, 0]⟩ (fun h => absurd hb h) (fun _ => ⟨rfl, rfl, rfl, fun j hj => hj⟩))
  · by_cases hc : (bt s (frK sn) : Int) = IntKind.wrap .u8 (frC sn s)
    · by_cases hd : (bt s (frK sn + 1) : Int) = frC sn s / 256
      · rw [if_pos ⟨by omega, hb, hc, hd⟩]
        refine frame_good (rest_ok s sn (frC sn s) _ (frK sn) _ _ _ h1 (by omega) (iW_len _) hu kW hL hC ⟨.ret, frE, hpE1 (iW (rdW (wds sn) s 1)) (wds sn).length (frK sn + 2 : Nat) true, [2, 1, 0, 0]⟩ (fun h => absurd hb h) (fun _ h => absurd (by rw [bt_at]; exact hc) h) (fun _ _ h => absurd (by rw [bt_at2]; exact hd) h) (fun _ _ _ => ⟨rfl, rfl, ?_, fun j hj => hj⟩))
        show [_, _, _, _] = [_, _, _, _]
        rw [show ((frK sn + 2 : Nat) : Int) = (frK sn : Int) + 1 + 1 by omega]
      · rw [if_neg (by unfold frG; exact fun h => hd h.2.2.2)]
        exact frame_bad (rest_ok s sn (frC sn s) _ (frK sn) _ _ _ h1 (by omega) (iW_len _) hu kW hL hC ⟨.ret, frE, hpR, [2, 1, 0, 0]⟩ (fun h => absurd hb h) (fun _ h => absurd (by rw [bt_at]; exact hc) h) (fun _ _ _ => ⟨rfl, rfl, rfl, fun j hj => hj⟩) (fun _ _ h => absurd (by rw [bt_at2]; exact hd) h))
    · rw [if_neg (by unfold frG; exact fun h => hc h.2.2.1)]
      exact frame_bad (rest_ok s sn (frC sn s) _ (frK sn) _ _ _ h1 (by omega) (iW_len _) hu kW hL hC ⟨.ret, frE, hpR, [2, 1, 0, 0]⟩ (fun h => absurd hb h) (fun _ _ => ⟨rfl, rfl, rfl, fun j hj => hj⟩) (fun _ h => absurd (by rw [bt_at]; exact hc) h) (fun _ h => absurd (by rw [bt_at]; exact hc) h))
end Go.Proofs.Ytbolppjlaipfjaa.Ex
end
section
set_option linter.unusedSectionVars false
set_option linter.unusedSimpArgs false
set_option linter.unusedVariables false
namespace Go.Proofs.Ytbolppjlaipfjaa.Ex
open Go
set_option linter.unusedVariables false
theorem find_ext : Extern.findNext Try.f40 = none := by kernel_rfl
theorem find_ext2 : Extern.find Try.f40 = some Extern.BytealgIndexByte.indexByte := by kernel_rfl
theorem index_ext (s : ByteArray) (c : Int) (v : Value) (h : ∀ w : World, (Extern.BytealgIndexByte.indexByte #[.string s, .int .u8 c]).run Try.prog w = .ok v w) : ExtSpec Try.prog 40 [.string s, .int .u8 c] v := by
  intro w
  have hf := Try.func40
  have h1 : (Try.f40.name == "runtime.NumGoroutine") = false := by kernel_rfl
  have h2 : Try.f40.body.isNone = true := by kernel_rfl
  have hp : ∀ w : World, (program : Sem Program).run Try.prog w = .ok Try.prog w := fun _ => rfl
  have hm : ∀ (m : Mark) (w : World), (mark m : Sem Unit).run Try.prog w = .ok () w := fun _ _ => rfl
  unfold callFunc
  simp only [Sem.run_bind, hp, Result.andThen_ok, hf, h1, h2, if_true, Bool.false_eq_true, if_false, hm, find_ext, find_ext2]
  simp only [Sem.run_bind, h w, Result.andThen_ok, Sem.run_pure]
def F.find (s : ByteArray) (c : Int) : Int := match (List.range s.size).find? fun i => s[i]! == c.toNat.toUInt8 with
  | some i => (i : Int)
  | none => -1
theorem findByte_run (s : ByteArray) (c : Int) (w : World) : (Extern.BytealgIndexByte.indexByte #[.string s, .int .u8 c]).run Try.prog w = .ok (.int .i64 (F.find s c)) w := by
  show (match (List.range s.size).find? (fun i => s[i]! == c.toNat.toUInt8) with
    | some i => (pure (goInt i) : Sem Value)
    | none => pure (goInt (-1))).run Try.prog w = _
  unfold F.find
  cases (List.range s.size).find? (fun i => s[i]! == c.toNat.toUInt8) <;> rfl
theorem index_told {s : ByteArray} {c : Int} : ExtSpec Try.prog 40 [.string s, .int .u8 c] (.int .i64 (F.find s c)) := index_ext s c _ (findByte_run s c)
end Go.Proofs.Ytbolppjlaipfjaa.Ex
end
section
set_option linter.unusedSectionVars false
set_option linter.unusedSimpArgs false
set_option linter.unusedVariables false
namespace Go.Proofs.Ytbolppjlaipfjaa.Ex
open Go
set_option linter.unusedVariables false
def a5 : ByteArray := ⟨#[165]⟩
section
variable (s : ByteArray) (hs : ByteArray.size s ≤ 140737488351232)
include s hs
theorem idx_ok_pt : go (exec (Try.prog) (8) (21) ([.string s, .string a5]) ([])) [(26, .dec true)] = some (.mk (.int .i64 0) [] [], true, [(ByteArray.toList a5 == ByteArray.toList s) = true]) := by kernel_rfl
theorem idx_ok_pf : go (exec (Try.prog) (8) (21) ([.string s, .string a5]) ([])) [(26, .dec false), (15, .call (.mk (.int .i64 (F.find s 165)) [] []))] = some (.mk (.int .i64 (F.find s 165)) [] [], true, [(ByteArray.toList a5 == ByteArray.toList s) = false, ExtSpec Try.prog 40 [.string s, .int .u8 165] (.int .i64 (F.find s 165))]) := by kernel_rfl
theorem idx_ok (R : Res) (k_pt : (h0 : (ByteArray.toList a5 == ByteArray.toList s) = true) → Res.le (.mk (.int .i64 0) [] []) R) (k_pf : (h0 : ¬ ((ByteArray.toList a5 == ByteArray.toList s) = true)) → Res.le (.mk (.int .i64 (F.find s 165)) [] []) R) : CallSpec (Try.prog) (21) ([.string s, .string a5]) ([]) R := by
  by_cases h0 : (ByteArray.toList a5 == ByteArray.toList s) = true
  · exact (CallSpec.id (go_ok (exec_ok tnamed tcalm tmixed _ _ _ _) (idx_ok_pt s hs ) (aC (h0) aN))).le (k_pt h0)
  · exact (CallSpec.id (go_ok (exec_ok tnamed tcalm tmixed _ _ _ _) (idx_ok_pf s hs ) (aC ((bF h0)) (aC ((index_told)) aN)))).le (k_pf h0)
end
end Go.Proofs.Ytbolppjlaipfjaa.Ex
end
section
set_option linter.unusedSectionVars false
set_option linter.unusedSimpArgs false
set_option linter.unusedVariables false
namespace Go.Proofs.Ytbolppjlaipfjaa.Ex
open Go
set_option linter.unusedVariables false
abbrev bl (s : ByteArray) : List UInt8 := s.data.toList
def F.str (l : List UInt8) : ByteArray := ⟨l.toArray⟩
theorem bl_str (l : List UInt8) : bl (F.str l) = l := rfl
theorem str_bl (s : ByteArray) : F.str (bl s) = s := rfl
theorem str_inj {s t : ByteArray} (h : bl s = bl t) : s = t := by rw [← str_bl s, ← str_bl t, h]
theorem bl_len (s : ByteArray) : (bl s).length = s.size := size_list s
theorem bl_cut (s : ByteArray) (a b : Nat) : bl (s.extract a b) = ((bl s).take b).drop a := by
  simp [bl, ByteArray.data_extract, List.extract_eq_take_drop, List.drop_take]
def F.pass : List UInt8 → List UInt8
  | [] => []
  | b :: l => bif b == 165 then b :: l else F.pass l
theorem find_none (s : ByteArray) {n : Nat} (h : (List.range n).find? (fun i => s[i]! == (165 : UInt8)) = none) : ∀ i, i < n → s[i]! ≠ 165 := by
  intro i hi e
  have := List.find?_eq_none.1 h i (List.mem_range.2 hi)
  simp [e] at this
theorem get_bl (s : ByteArray) (i : Nat) (h : i < (bl s).length) : s[i]! = (bl s)[i] := by
  have h' : i < s.size := by rw [← bl_len]; exact h
  rw [getElem!_pos s i h']
  rfl
theorem pass_none : ∀ (l : List UInt8), (∀ b ∈ l, b ≠ 165) → F.pass l = []
  | [], _ => rfl
  | b :: l, h => by
    unfold F.pass
    rw [show (b == 165) = false from beq_false_of_ne (h b (by simp))]
    exact pass_none l fun c hc => h c (by simp [hc])
theorem pass_at : ∀ (l : List UInt8) (n : Nat) (h : n < l.length), l[n] = 165 → (∀ i (hi : i < n), l[i] ≠ 165) → F.pass l = l.drop n
  | [], n, h, _, _ => absurd h (Nat.not_lt_zero n)
  | b :: l, 0, h, e, _ => by
    have e' : b = 165 := e
    unfold F.pass
    rw [show (b == 165) = true from by rw [e']; rfl]
    rfl
  | b :: l, n + 1, h, e, f => by
    unfold F.pass
    rw [show (b == 165) = false from beq_false_of_ne (f 0 (Nat.succ_pos n))]
    exact pass_at l n (Nat.lt_of_succ_lt_succ h) e fun i hi => f (i + 1) (Nat.succ_lt_succ hi)
theorem find_cases (s : ByteArray) : (F.find s 165 = -1 ∧ F.pass (bl s) = []) ∨ ∃ n : Nat, F.find s 165 = n ∧ n < s.size ∧ F.pass (bl s) = (bl s).drop n ∧ F.pass (bl s) ≠ [] := by
  unfold F.find
  rw [show (165 : Int).toNat.toUInt8 = 165 from rfl]
  cases h : (List.range s.size).find? (fun i => s[i]! == (165 : UInt8)) with
  | none =>
    refine .inl ⟨rfl, pass_none _ fun b hb => ?_⟩
    obtain ⟨i, hi, e⟩ := List.getElem_of_mem hb
    have := find_none s h i (by rw [← bl_len]; exact hi)
    rw [get_bl s i hi, e] at this
    exact this
  | some n =>
    have hn : n < s.size := List.mem_range.1 (List.mem_of_find?_eq_some h)
    have hl : n < (bl s).length := by rw [bl_len]; exact hn
    have hp : s[n]! = 165 := by simpa using List.find?_some h
    rw [get_bl s n hl] at hp
    have hd : F.pass (bl s) = (bl s).drop n := pass_at _ n hl hp fun i hi => by
      obtain ⟨_, xs, ys, hab, hall⟩ := List.find?_eq_some_iff_append.1 h
      have hlen : xs.length = n := by
        have h1 : (List.range s.size)[xs.length]'(by rw [hab]; simp) = n := by
          simp only [hab, List.getElem_append_right, Nat.le_refl, Nat.sub_self, List.getElem_cons_zero]
        rw [List.getElem_range] at h1
        exact h1
      have hm : i ∈ xs := by
        have h2 : (List.range s.size)[i]'(by rw [List.length_range]; omega) = i := by rw [List.getElem_range]
        have h3 : (List.range s.size)[i]'(by rw [List.length_range]; omega) = xs[i]'(by omega) := by
          simp only [hab]
          rw [List.getElem_append_left]
        rw [h2] at h3
        rw [h3]
        exact List.getElem_mem _
      have := hall i hm
      rw [get_bl s i (by omega)] at this
      simpa using this
    refine .inr ⟨n, rfl, hn, hd, ?_⟩
    rw [hd]
    intro e
    have := congrArg List.length e
    rw [List.length_drop, bl_len] at this
    simp at this
    omega
theorem find_le (s : ByteArray) : -1 ≤ F.find s 165 ∧ F.find s 165 < s.size := by
  rcases find_cases s with ⟨e, _⟩ | ⟨n, e, h, _⟩ <;> omega
theorem bl_beq (s t : ByteArray) : (ByteArray.toList s == ByteArray.toList t) = (bl s == bl t) := by
  rw [ByteArray.toList_eq, ByteArray.toList_eq]
theorem beq_str {s t : ByteArray} (h : (ByteArray.toList s == ByteArray.toList t) = true) : s = t := by
  rw [bl_beq] at h
  exact str_inj (by simpa using h)
theorem idx_done {s : ByteArray} (hs : s.size ≤ 140737488351232) : CallSpec Try.prog 21 [.string s, .string a5] [] ⟨.int .i64 (F.find s 165), [], []⟩ := by
  refine idx_ok s hs _ (fun h0 => ?_) (fun _ => res_refl)
  have := beq_str h0
  subst this
  exact ⟨congrArg (Value.int .i64) (show (0 : Int) = F.find a5 165 by decide +kernel), rfl, fun j hj => hj⟩
end Go.Proofs.Ytbolppjlaipfjaa.Ex
end
