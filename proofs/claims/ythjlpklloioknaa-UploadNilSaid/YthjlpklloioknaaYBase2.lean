import Derived.Test.YthjlpklloioknaaYBase1
import Derived.Orders
import Derived.LoopN
import Derived.KernelRfl
import Derived.IntWalk
import Derived.Test.YthjlpklloioknaaChecked
import Derived.SizedLaws
import Derived.ChangeSlices
import Derived.OpenShut
import Derived.Deep.Slices
import Derived.ShutString
import Derived.ChangeOld
import Derived.Below
import Derived.Carry
import Derived.WalkKit
import Derived.ProofKit
import Derived.MapKept
section
set_option linter.unusedSectionVars false
set_option linter.unusedSimpArgs false
set_option linter.unusedVariables false
namespace Go.Proofs.Ythjlpklloioknaa.Ex
open Go
set_option linter.unusedVariables false
set_option linter.unusedSimpArgs false
theorem fold_push {β : Type} (f : Array Nat → β → Nat) : ∀ (l : List β) (acc : Array Nat),
    (l.foldl (fun acc o => acc.push (f acc o)) acc).size = acc.size + l.length ∧ (∀ k, k < acc.size → (l.foldl (fun acc o => acc.push (f acc o)) acc)[k]? = acc[k]?) ∧
    ∀ k o, l[k]? = some o → ∃ acc' : Array Nat, acc'.size = acc.size + k ∧ (∀ m, m < acc'.size → (l.foldl (fun acc o => acc.push (f acc o)) acc)[m]? = acc'[m]?) ∧ (l.foldl (fun acc o => acc.push (f acc o)) acc)[acc.size + k]? = some (f acc' o)
  | [], acc => ⟨rfl, fun _ _ => rfl, fun k o h => by simp at h⟩
  | x :: l, acc => by
    obtain ⟨h1, h2, h3⟩ := fold_push f l (acc.push (f acc x))
    rw [List.foldl_cons]
    refine ⟨by rw [h1]; simp; omega, fun k hk => ?_, fun k o hk => ?_⟩
    · rw [h2 k (by simp; omega), Array.getElem?_push, if_neg (by omega)]
    · cases k with
      | zero =>
        cases hk
        refine ⟨acc, rfl, fun m hm => ?_, ?_⟩
        · rw [h2 m (by simp; omega), Array.getElem?_push, if_neg (by omega)]
        · rw [Nat.add_zero, h2 acc.size (by simp)]
          simp
      | succ k =>
        obtain ⟨acc', k1, k2, k3⟩ := h3 k o (by simpa using hk)
        refine ⟨acc', by rw [k1]; simp; omega, k2, ?_⟩
        rw [← k3]
        congr 1
        simp
        omega
theorem edges_bit {md : Region.Mode} {acc : Array Nat} {i : Nat} : ∀ (es : List Edge) (s : Nat), (es.foldl (fun s e => if Region.binds md e then s ||| 2 ^ e.on ||| acc.getD e.on 0 else s) s).testBit i = true →
    s.testBit i = true ∨ ∃ e, e ∈ es ∧ Region.binds md e = true ∧ (i = e.on ∨ (acc.getD e.on 0).testBit i = true)
  | [], s, h => .inl h
  | e :: es, s, h => by
    rw [List.foldl_cons] at h
    rcases edges_bit es _ h with h | ⟨e', k1, k2⟩
    · split at h
      · rename_i hb
        rw [Nat.testBit_or, Nat.testBit_or, Bool.or_eq_true, Bool.or_eq_true, Nat.testBit_two_pow] at h
        rcases h with (h | h) | h
        · exact .inl h
        · exact .inr ⟨e, by simp, hb, .inl (by simpa using (of_decide_eq_true h).symm)⟩
        · exact .inr ⟨e, by simp, hb, .inr h⟩
      · exact .inl h
    · exact .inr ⟨e', by simp [k1], k2⟩
theorem before_edge {ops : Array Oper} {i j : Nat} (h : ((Region.before ops).getD j 0).testBit i = true) :
    ∃ o e, ops[j]? = some o ∧ e ∈ o.after.toList ∧ Region.binds .any e = true ∧ (i = e.on ∨ (e.on < j ∧ ((Region.before ops).getD e.on 0).testBit i = true)) := by
  unfold Region.before at h ⊢
  rw [← Array.foldl_toList] at h ⊢
  have key := fold_push (fun (acc : Array Nat) (o : Oper) => o.after.foldl (fun s e => if Region.binds .any e then s ||| 2 ^ e.on ||| acc.getD e.on 0 else s) 0) ops.toList #[]
  revert h key
  generalize ops.toList.foldl (fun acc o => acc.push (o.after.foldl (fun s e => if Region.binds .any e then s ||| 2 ^ e.on ||| acc.getD e.on 0 else s) 0)) #[] = R
  intro h key
  obtain ⟨h1, _, h3⟩ := key
  have hj : j < ops.size := by
    rcases Nat.lt_or_ge j ops.size with c | c
    · exact c
    · rw [Array.getD_eq_getD_getElem?, Array.getElem?_eq_none (by rw [h1]; simp; omega)] at h
      simp at h
  obtain ⟨acc', k1, k2, k3⟩ := h3 j ops[j] (by simp [hj])
  simp only [List.size_toArray, List.length_nil, Nat.zero_add] at k1 k3
  rw [Array.getD_eq_getD_getElem?, k3, Option.getD_some, ← Array.foldl_toList] at h
  rcases edges_bit _ _ h with h | ⟨e, q1, q2, q3⟩
  · simp at h
  · refine ⟨ops[j], e, by simp [hj], q1, q2, q3.imp id fun hb => ?_⟩
    rcases Nat.lt_or_ge e.on acc'.size with c | c
    · refine ⟨by omega, ?_⟩
      rw [Array.getD_eq_getD_getElem?, k2 e.on c, ← Array.getD_eq_getD_getElem?]
      exact hb
    · rw [Array.getD_eq_getD_getElem?, Array.getElem?_eq_none c] at hb
      simp at hb
theorem before_closed {ops : Array Oper} {S : Nat → Prop} (hS : ∀ j o e, S j → ops[j]? = some o → e ∈ o.after.toList → Region.binds .any e = true → S e.on) : ∀ (j i : Nat), S j → ((Region.before ops).getD j 0).testBit i = true → S i := by
  intro j
  induction j using Nat.strongRecOn with
  | _ j ih =>
    intro i hj hb
    obtain ⟨o, e, h1, h2, h3, h4⟩ := before_edge hb
    have he := hS j o e hj h1 h2 h3
    rcases h4 with rfl | ⟨hlt, hb'⟩
    · exact he
    · exact ih e.on hlt i he hb'
end Go.Proofs.Ythjlpklloioknaa.Ex
namespace Go.Proofs.Ythjlpklloioknaa.Ex
open Go
set_option linter.unusedVariables false
set_option linter.unusedSimpArgs false
section
variable {P : Program}
def Seen (all : Array Oper) (ν : Nu) (fr : Fr) (tmps : Array Value) (o : Oper) : Prop := ∀ d v, d ∈ o.looksAt all → fr.get d = some v → ∃ v', tmps[d]? = some v' ∧ VR ν v v'
def Wants (all : Array Oper) (fr : Fr) (o : Oper) (b : Bool) : Prop := ∀ ν (tmps : Array Value), Seen all ν fr tmps o → Region.wanted o (yielded all tmps) = b
theorem wants_sat {ops : Array Oper} {fr : Fr} {o : Oper} : Sat (wantA ops fr o) (Wants ops fr o) := by
  unfold wantA
  split
  · rename_i hg
    exact Sat.ret _ fun ν tmps h => by simp [Region.wanted, hg]
  · rename_i j want hg
    split
    · rename_i hd
      exact Sat.ret _ fun ν tmps h => by simp [Region.wanted, hg, yielded, hd]
    · rename_i d hd
      have hin : d ∈ o.looksAt ops := by simp [Oper.looksAt, hg, hd]
      split
      · rename_i b hb
        refine Sat.bind_ask (Sat.ret _ fun ν tmps h => ?_)
        obtain ⟨v', h1, h2⟩ := h d _ hin hb
        have : v' = .bool b := h2
        subst this
        simp [Region.wanted, hg, yielded, hd, h1]
      · rename_i hb
        refine Sat.ret _ fun ν tmps h => ?_
        obtain ⟨v', h1, h2⟩ := h d _ hin hb
        obtain ⟨cs', rfl, hl⟩ := h2
        simp [Region.wanted, hg, yielded, hd, h1]
      · exact Sat.stop
def OneStep (P : Program) (all : Array Oper) (o : Oper) (fr : Fr) (hp : Hp) (fr' : Fr) (hp' : Hp) (s : Step) : Prop :=
  (Wants all fr o true ∧ ∃ r, OpOk P (footA P fr hp o) fr hp o r ∧ fr' = putT fr o.dst r.v ∧ hp' = r.hp ∧ s = ⟨footA P fr hp o, r.wr, hp.length, r.hp.length⟩) ∨
  (Wants all fr o false ∧ fr' = putT fr o.dst undef ∧ hp' = hp ∧ s = ⟨[], [], hp.length, hp.length⟩)
theorem seqs_sat {call : CallF} (hN : Named P) (hcall : Sound P call) {all : Array Oper} : ∀ (os : List Oper) (fr : Fr) (hp : Hp) (wr : List Nat) (st : List Step),
    Sat (opsA P call all os fr hp wr st) fun r => ∃ (f : Nat → Fr) (h : Nat → Hp) (s : Nat → Step), f 0 = fr ∧ h 0 = hp ∧ (∀ k o, os[k]? = some o → OneStep P all o (f k) (h k) (f (k + 1)) (h (k + 1)) (s k)) ∧
      f os.length = r.1 ∧ h os.length = r.2.1 ∧ (∀ id, id ∈ r.2.2.1 ↔ id ∈ wr ∨ ∃ k, k < os.length ∧ id ∈ (s k).wr) ∧ r.2.2.2 = st.reverse ++ (List.range os.length).map s
  | [], fr, hp, wr, st => Sat.ret _ ⟨fun _ => fr, fun _ => hp, fun _ => ⟨[], [], 0, 0⟩, rfl, rfl, fun k o h => by simp at h, rfl, rfl, fun id => ⟨.inl, fun h => h.elim (fun x => x) (fun ⟨k, hk, _⟩ => by simp at hk)⟩, by simp⟩
  | o :: os, fr, hp, wr, st => by
    have glue : ∀ (fr1 : Fr) (hp1 : Hp) (s0 : Step), OneStep P all o fr hp fr1 hp1 s0 → ∀ wr1 : List Nat, (∀ id, id ∈ wr1 ↔ id ∈ s0.wr ∨ id ∈ wr) → ∀ r : Fr × Hp × List Nat × List Step,
        (∃ (f : Nat → Fr) (h : Nat → Hp) (s : Nat → Step), f 0 = fr1 ∧ h 0 = hp1 ∧ (∀ k o, os[k]? = some o → OneStep P all o (f k) (h k) (f (k + 1)) (h (k + 1)) (s k)) ∧
          f os.length = r.1 ∧ h os.length = r.2.1 ∧ (∀ id, id ∈ r.2.2.1 ↔ id ∈ wr1 ∨ ∃ k, k < os.length ∧ id ∈ (s k).wr) ∧ r.2.2.2 = (s0 :: st).reverse ++ (List.range os.length).map s) →
        ∃ (f : Nat → Fr) (h : Nat → Hp) (s : Nat → Step), f 0 = fr ∧ h 0 = hp ∧ (∀ k o', (o :: os)[k]? = some o' → OneStep P all o' (f k) (h k) (f (k + 1)) (h (k + 1)) (s k)) ∧
          f (o :: os).length = r.1 ∧ h (o :: os).length = r.2.1 ∧ (∀ id, id ∈ r.2.2.1 ↔ id ∈ wr ∨ ∃ k, k < (o :: os).length ∧ id ∈ (s k).wr) ∧ r.2.2.2 = st.reverse ++ (List.range (o :: os).length).map s := by
      rintro fr1 hp1 s0 h0 wr1 hw1 r ⟨f, h, s, e1, e2, e3, e4, e5, e6, e7⟩
      refine ⟨fun k => match k with | 0 => fr | k + 1 => f k, fun k => match k with | 0 => hp | k + 1 => h k, fun k => match k with | 0 => s0 | k + 1 => s k, rfl, rfl, ?_, e4, e5, ?_, ?_⟩
      · intro k o' hk
        cases k with
        | zero =>
          simp only [List.getElem?_cons_zero, Option.some.injEq] at hk
          subst hk
          show OneStep P all o fr hp (f 0) (h 0) s0
          rw [e1, e2]
          exact h0
        | succ k => exact e3 k o' (by simpa using hk)
      · intro id
        rw [e6, hw1]
        constructor
        · rintro ((h | h) | ⟨k, hk, h⟩)
          · exact .inr ⟨0, by simp, h⟩
          · exact .inl h
          · exact .inr ⟨k + 1, by simp; omega, h⟩
        · rintro (h | ⟨k, hk, h⟩)
          · exact .inl (.inr h)
          · cases k with
            | zero => exact .inl (.inl h)
            | succ k => exact .inr ⟨k, by simp at hk; omega, h⟩
      · rw [e7, List.length_cons, List.range_succ_eq_map]
        simp
    unfold opsA
    refine Sat.bind wants_sat fun b hb => ?_
    split
    · rename_i hbt
      subst hbt
      refine Sat.bind (opS_sat (F := footA P fr hp o) hN (fun g args hids => hcall _ g args hp hids) fun id hid => hid) fun r hr => (seqs_sat hN hcall os _ _ _ _).mono fun q hq => ?_
      exact glue _ _ ⟨footA P fr hp o, r.wr, hp.length, r.hp.length⟩ (.inl ⟨hb, r, hr, rfl, rfl, rfl⟩) _ (fun id => by simp) q hq
    · rename_i hbf
      have hbf : b = false := by simpa using hbf
      subst hbf
      refine (seqs_sat hN hcall os _ _ _ _).mono fun q hq => ?_
      exact glue _ _ ⟨[], [], hp.length, hp.length⟩ (.inr ⟨hb, rfl, rfl, rfl⟩) _ (fun id => by simp) q hq
end
end Go.Proofs.Ythjlpklloioknaa.Ex
namespace Go.Proofs.Ythjlpklloioknaa.Ex
open Go
set_option linter.unusedVariables false
set_option linter.unusedSimpArgs false
section
variable {α : Type}
def cur (g : Nat → α) (hit : Nat → Bool) : Nat → Nat × α
  | 0 => (0, g 0)
  | n + 1 => if hit n = true then (n + 1, g (n + 1)) else cur g hit n
theorem cur_stay {g : Nat → α} {hit : Nat → Bool} {i : Nat} : ∀ (n : Nat), i ≤ n → (∀ k, i ≤ k → k < n → hit k = false) → cur g hit n = cur g hit i
  | 0, h, _ => by obtain rfl : i = 0 := by omega
                  rfl
  | n + 1, h, hk => by
    by_cases c : i = n + 1
    · rw [c]
    · unfold cur
      rw [if_neg (by rw [hk n (by omega) (by omega)]; simp)]
      exact (cur_stay n (by omega) fun k h1 h2 => hk k h1 (by omega)).trans (by cases i <;> rfl)
theorem cur_level {g : Nat → α} {hit : Nat → Bool} : ∀ n, (cur g hit n).1 ≤ n ∧ (cur g hit n).2 = g (cur g hit n).1
  | 0 => ⟨Nat.le_refl _, rfl⟩
  | n + 1 => by
    unfold cur
    split
    · exact ⟨Nat.le_refl _, rfl⟩
    · exact ⟨Nat.le_succ_of_le (cur_level n).1, (cur_level n).2⟩
theorem cur_at {g : Nat → α} {S touch : Nat → Bool} {i n : Nat} (hg : ∀ k, k < n → touch k = false → g (k + 1) = g k) (hi : i ≤ n) (h1 : ∀ k, k < i → touch k = true → S k = true) (h2 : ∀ k, i ≤ k → k < n → touch k = true → S k = false) :
    (cur g (fun k => S k && touch k) n).1 ≤ i ∧ (cur g (fun k => S k && touch k) n).2 = g i := by
  rw [cur_stay n hi fun k hk hkn => by
    cases ht : touch k with
    | false => simp
    | true => rw [h2 k hk hkn ht]; rfl]
  refine ⟨(cur_level i).1, ?_⟩
  have key : ∀ m, m ≤ i → (cur g (fun k => S k && touch k) m).2 = g m := by
    intro m
    induction m with
    | zero => intro _; rfl
    | succ m ih =>
      intro hm
      unfold cur
      cases ht : touch m with
      | true => rw [h1 m (by omega) ht]; rfl
      | false =>
        rw [if_neg (by simp), hg m (by omega) ht]
        exact ih (by omega)
  exact key i (Nat.le_refl _)
theorem cur_done {g : Nat → α} {S S' touch : Nat → Bool} {i n : Nat} (hi : i < n) (hS : S' i = true) (ht : touch i = true) (h2 : ∀ k, i < k → k < n → touch k = true → S' k = false) :
    cur g (fun k => S' k && touch k) n = (i + 1, g (i + 1)) := by
  rw [cur_stay (i := i + 1) n (by omega) fun k hk hkn => by
    cases hk' : touch k with
    | false => simp
    | true => rw [h2 k (by omega) hkn hk']; rfl]
  unfold cur
  rw [if_pos (by simp [hS, ht])]
theorem cur_other {g : Nat → α} {S S' touch : Nat → Bool} {i : Nat} (hS : ∀ k, k ≠ i → S' k = S k) (ht : touch i = false) : ∀ n, cur g (fun k => S' k && touch k) n = cur g (fun k => S k && touch k) n
  | 0 => rfl
  | n + 1 => by
    unfold cur
    by_cases c : n = i
    · subst c
      simp only [ht, Bool.and_false, Bool.false_eq_true, if_false]
      exact cur_other hS ht n
    · simp only [hS n c]
      split
      · rfl
      · exact cur_other hS ht n
end
end Go.Proofs.Ythjlpklloioknaa.Ex
namespace Go.Proofs.Ythjlpklloioknaa.Ex
open Go
set_option linter.unusedVariables false
set_option linter.unusedSimpArgs false
section
variable {P : Program} {fr : Fr} {o : Oper} {ν : Nu}
theorem Seen.env {all : Array Oper} {a : Act} (h : Seen all ν fr a.tmps o) : Env ν fr a o := fun x hx v hv => by
  cases x with
  | tmp t =>
    have hin : t ∈ o.looksAt all := by
      unfold Oper.looksAt
      exact List.mem_append.2 (.inl (List.mem_filterMap.2 ⟨.tmp t, by simpa using hx, rfl⟩))
    obtain ⟨v', h1, h2⟩ := h t v hin hv
    have : a.eval (.tmp t) = v' := by simp [Act.eval, h1]
    rw [this]
    exact h2
  | const c =>
    simp only [val] at hv
    split at hv
    · rename_i hf
      cases hv
      exact (flat_VR hf _).2 rfl
    · cases hv
  | func f => cases hv; exact ⟨#[], #[], rfl, .nil, .nil⟩
  | global g => cases hv
def below (ν : Nu) (n : Nat) : Nu := fun id => if id < n then ν id else none
theorem below_le {n : Nat} : Le (below ν n) ν := fun id N h => by
  unfold below at h
  split at h
  · exact h
  · cases h
theorem below_mono {n k : Nat} (hnk : n ≤ k) : Le (below ν n) (below ν k) := fun id N h => by
  unfold below at h ⊢
  split at h
  · rw [if_pos (by omega)]; exact h
  · cases h
theorem below_out {n id : Nat} (h : n ≤ id) : below ν n id = none := if_neg (by omega)
theorem below_in {n id : Nat} (h : id < n) : below ν n id = ν id := if_pos h
theorem RepBlk.up {w : World} {id : Nat} {b : Blk} {ν' : Nu} (h : Le ν ν') (hb : RepBlk P ν w id b) : RepBlk P ν' w id b := hb.le h (fun _ _ _ => rfl) (Nat.le_refl _)
end
end Go.Proofs.Ythjlpklloioknaa.Ex
namespace Go.Proofs.Ythjlpklloioknaa.Ex
open Go
set_option linter.unusedVariables false
set_option linter.unusedSimpArgs false
section
variable {P : Program}
def touchT (ops : Array Oper) (t k : Nat) : Bool := match (ops[k]?).bind (·.dst) with
  | some d => d == t
  | none => false
def touchB (s : Nat → Step) (id k : Nat) : Bool := hits (s k) id
def curT (ops : Array Oper) (f : Nat → Fr) (S : Nat → Bool) (t : Nat) : Nat × Option Value := cur (fun k => (f k).get t) (fun k => S k && touchT ops t k) ops.size
def curB (ops : Array Oper) (h : Nat → Hp) (s : Nat → Step) (S : Nat → Bool) (id : Nat) : Nat × Blk := cur (fun k => (h k).getD id .dead) (fun k => S k && touchB s id k) ops.size
structure Stand (P : Program) (ops : Array Oper) (f : Nat → Fr) (h : Nat → Hp) (s : Nat → Step) (w0 : World) (ν0 : Nu) (m : Nat) (wx : List Nat) (S : Nat → Bool) (ν : Nu) (tmps : Array Value) (w : World) : Prop where
  tlen : (f 0).n = tmps.size
  tmp : ∀ t v, (curT ops f S t).2 = some v → ∃ v', tmps[t]? = some v' ∧ VR (below ν (h (curT ops f S t).1).length) v v'
  blk : ∀ id, RepBlk P (below ν (h (curB ops h s S id).1).length) w id (curB ops h s S id).2
  over : ∀ id, (h ops.size).length ≤ id → ν id = none
  made : ∀ k id, k < ops.size → S k = false → (h k).length ≤ id → id < (h (k + 1)).length → ν id = none
  sep : ∀ i j N K, i ≠ j → (curB ops h s S i).2.isOwn = true → (curB ops h s S j).2.live = true → ν i = some N → ν j = some K → N.g ≠ K.g
  len : m ≤ (h 0).length
  same : ∀ id, id < m → ν id = ν0 id
  os : w.os = w0.os
  tape : w.tape = w0.tape
  output : w.output = w0.output
  size : w0.heap.size ≤ w.heap.size
  frame : ∀ g, g < w0.heap.size → (∀ id N, id < m → (id ∈ wx ∨ ∃ k, k < ops.size ∧ S k = true ∧ id ∈ (s k).wr) → ν0 id = some N → N.g ≠ g) → w.heap[g]? = w0.heap[g]?
  fresh : ∀ id N, m ≤ id → (curB ops h s S id).2.live = true → ν id = some N → w0.heap.size ≤ N.g ∨ ∃ j K, j < m ∧ (j ∈ wx ∨ ∃ k, k < ops.size ∧ S k = true ∧ j ∈ (s k).wr) ∧ ν0 j = some K ∧ K.g = N.g
theorem cur_none {α : Type} {g : Nat → α} {hit : Nat → Bool} (h : ∀ k, hit k = false) : ∀ n, cur g hit n = (0, g 0)
  | 0 => rfl
  | n + 1 => by
    unfold cur
    rw [if_neg (by rw [h]; simp)]
    exact cur_none h n
theorem Stand.init {ops : Array Oper} {f : Nat → Fr} {h : Nat → Hp} {s : Nat → Step} {w0 : World} {ν0 : Nu} {m : Nat} {wx : List Nat} {ν : Nu} {tmps : Array Value} {w : World}
    (hmono : ∀ k, k ≤ ops.size → (h 0).length ≤ (h k).length) (hi : Inv P w0 ν0 m ν (h 0) wx w) (hf : FrRel ν (f 0) tmps) : Stand P ops f h s w0 ν0 m wx (fun _ => false) ν tmps w := by
  have eT : ∀ t, curT ops f (fun _ => false) t = (0, (f 0).get t) := fun t => cur_none (fun _ => by simp) _
  have eB : ∀ id, curB ops h s (fun _ => false) id = (0, (h 0).getD id .dead) := fun id => cur_none (fun _ => by simp) _
  have hle : Le ν (below ν (h 0).length) := fun id N hN => by
    rcases Nat.lt_or_ge id (h 0).length with c | c
    · rw [below_in c]; exact hN
    · rw [hi.rep.dom id c] at hN; cases hN
  refine ⟨hf.1, fun t v hv => ?_, fun id => ?_, fun id hid => hi.rep.dom id (Nat.le_trans (hmono _ (Nat.le_refl _)) hid), fun k id hk _ hid _ => hi.rep.dom id (Nat.le_trans (hmono k (Nat.le_of_lt hk)) hid), fun i j N K hij h1 h2 => ?_, hi.len, hi.same, hi.os, hi.tape, hi.output, hi.size, fun g hg hfr => hi.frame g hg fun id N hid hw hN => hfr id N hid (.inl hw) hN, fun id N hid hl hN => ?_⟩
  · rw [eT] at hv ⊢
    obtain ⟨v', h1, h2⟩ := hf.2 t v hv
    exact ⟨v', h1, h2.le hle⟩
  · rw [eB]
    exact (hi.rep.blk id).up hle
  · rw [eB] at h1 h2
    exact hi.rep.sep i j N K hij h1 h2
  · rw [eB] at hl
    rcases hi.fresh id N hid hl hN with k | ⟨j, K, k1, k2, k3⟩
    · exact .inl k
    · exact .inr ⟨j, K, k1, .inl k2, k3⟩
theorem Stand.final {ops : Array Oper} {f : Nat → Fr} {h : Nat → Hp} {s : Nat → Step} {w0 : World} {ν0 : Nu} {m : Nat} {wx wr : List Nat} {S : Nat → Bool} {ν : Nu} {tmps : Array Value} {w : World}
    (hmono : (h 0).length ≤ (h ops.size).length) (hflen : (f ops.size).n = (f 0).n) (hS : ∀ k, k < ops.size → S k = true) (hwr : ∀ id, id ∈ wr ↔ ∃ k, k < ops.size ∧ id ∈ (s k).wr)
    (hgT : ∀ t k, k < ops.size → touchT ops t k = false → (f (k + 1)).get t = (f k).get t) (hgB : ∀ id k, k < ops.size → touchB s id k = false → (h (k + 1)).getD id .dead = (h k).getD id .dead)
    (st : Stand P ops f h s w0 ν0 m wx S ν tmps w) : Inv P w0 ν0 m ν (h ops.size) (wr ++ wx) w ∧ FrRel ν (f ops.size) tmps := by
  have eT : ∀ t, (curT ops f S t).2 = (f ops.size).get t := fun t => (cur_at (i := ops.size) (n := ops.size) (g := fun k => (f k).get t) (fun k hk ht => hgT t k hk ht) (Nat.le_refl _) (fun k hk _ => hS k hk) (fun k h1 h2 _ => by omega)).2
  have eB : ∀ id, (curB ops h s S id).2 = (h ops.size).getD id .dead := fun id => (cur_at (i := ops.size) (n := ops.size) (g := fun k => (h k).getD id .dead) (fun k hk ht => hgB id k hk ht) (Nat.le_refl _) (fun k hk _ => hS k hk) (fun k h1 h2 _ => by omega)).2
  have hw : ∀ id, (id ∈ wx ∨ ∃ k, k < ops.size ∧ S k = true ∧ id ∈ (s k).wr) → id ∈ wr ++ wx := fun id hid => by
    rcases hid with hid | ⟨k, k1, _, k3⟩
    · simp [hid]
    · exact List.mem_append.2 (.inl ((hwr id).2 ⟨k, k1, k3⟩))
  refine ⟨⟨⟨st.over, fun id => ?_, fun i j N K hij h1 h2 => ?_⟩, Nat.le_trans st.len hmono, st.same, st.os, st.tape, st.output, st.size, fun g hg hfr => st.frame g hg fun id N hid hw' hN => hfr id N hid (hw id hw') hN, fun id N hid hl hN => ?_⟩, hflen.trans st.tlen, fun t v hv => ?_⟩
  · have := (st.blk id).up below_le
    rw [eB] at this
    exact this
  · rw [← eB] at h1 h2
    exact st.sep i j N K hij h1 h2
  · rw [← eB] at hl
    rcases st.fresh id N hid hl hN with k | ⟨j, K, k1, k2, k3⟩
    · exact .inl k
    · exact .inr ⟨j, K, k1, hw j k2, k3⟩
  · rw [← eT] at hv
    obtain ⟨v', h1, h2⟩ := st.tmp t v hv
    exact ⟨v', h1, h2.le below_le⟩
end
end Go.Proofs.Ythjlpklloioknaa.Ex
namespace Go.Proofs.Ythjlpklloioknaa.Ex
open Go
set_option linter.unusedVariables false
set_option linter.unusedSimpArgs false
section
variable {P : Program} {all : Array Oper} {o : Oper} {fr fr' : Fr} {hp hp' : Hp} {s : Step}
theorem putT_len (d : Option Tmp) (v : Value) : (putT fr d v).n = fr.n := by
  cases d with
  | none => rfl
  | some d => exact Fr.set_n _ _ _
theorem putT_ne {d : Option Tmp} {v : Value} {t : Nat} (h : d ≠ some t) : (putT fr d v).get t = fr.get t := by
  cases d with
  | none => rfl
  | some d => exact Fr.get_ne _ _ (fun c => h (by rw [c]))
theorem OneStep.flen (h : OneStep P all o fr hp fr' hp' s) : fr'.n = fr.n := by
  rcases h with ⟨_, r, _, rfl, _⟩ | ⟨_, rfl, _⟩ <;> exact putT_len _ _
theorem OneStep.mono (h : OneStep P all o fr hp fr' hp' s) : hp.length ≤ hp'.length := by
  rcases h with ⟨_, r, hr, _, rfl, _⟩ | ⟨_, _, rfl, _⟩
  · exact hr.1.len
  · exact Nat.le_refl _
theorem OneStep.tmp (h : OneStep P all o fr hp fr' hp' s) {t : Nat} (ht : o.dst ≠ some t) : fr'.get t = fr.get t := by
  rcases h with ⟨_, r, _, rfl, _⟩ | ⟨_, rfl, _⟩ <;> exact putT_ne ht
theorem OneStep.blk (h : OneStep P all o fr hp fr' hp' s) {id : Nat} (hi : hits s id = false) : hp'.getD id .dead = hp.getD id .dead := by
  rcases h with ⟨_, r, hr, _, rfl, rfl⟩ | ⟨_, _, rfl, _⟩
  · simp only [hits, Bool.or_eq_false_iff, Bool.and_eq_false_iff, decide_eq_false_iff_not] at hi
    obtain ⟨h1, h2⟩ := hi
    have h1' : ¬ id ∈ r.wr := by simpa using h1
    rcases Nat.lt_or_ge id hp.length with c | c
    · exact hr.1.keep id c h1'
    · rcases h2 with h2 | h2
      · exact absurd c h2
      · rw [getD_out c, getD_out (by omega)]
  · rfl
theorem busy_mem : ∀ (n : Nat) (st : List Step) (i : Nat) (s : Step), st[i]? = some s → idle s = false → (n + i, s) ∈ busy n st
  | _, [], i, s, h, _ => by simp at h
  | n, x :: r, i, s, h, hs => by
    unfold busy
    cases i with
    | zero =>
      simp only [List.getElem?_cons_zero, Option.some.injEq] at h
      subst h
      rw [hs, if_neg Bool.false_ne_true]
      exact List.mem_cons_self
    | succ i =>
      have := busy_mem (n + 1) r i s (by simpa using h) hs
      have e : n + 1 + i = n + (i + 1) := by omega
      rw [e] at this
      split
      · exact this
      · exact List.mem_cons_of_mem _ this
theorem idle_clash {s t : Step} (h : idle s = true ∨ idle t = true) : clash s t = false := by
  have key : ∀ {s t : Step}, idle s = true → clash s t = false := by
    intro s t h
    unfold idle at h
    simp only [Bool.and_eq_true, List.isEmpty_iff, decide_eq_true_eq] at h
    have hh : ∀ b, hits s b = false := fun b => by
      unfold hits
      rw [h.1.2]
      simp only [List.contains_nil, Bool.false_or, Bool.and_eq_false_iff, decide_eq_false_iff_not]
      omega
    unfold clash
    rw [h.1.1, h.1.2]
    simp [hh]
  rcases h with h | h
  · exact key h
  · have := key (t := s) h
    unfold clash at this ⊢
    simp only [Bool.or_eq_false_iff] at this ⊢
    exact ⟨⟨⟨this.1.2, this.2⟩, this.1.1.1⟩, this.1.1.2⟩
theorem calm_spec {ops : Array Oper} {st : List Step} (hS : calmS ops = true) (h : calm ops st = true) :
    (∀ (j : Nat) (o : Oper) (e : Edge), ops[j]? = some o → e ∈ o.after.toList → Region.binds .any e = true → e.on < j) ∧
    ∀ i j, i < j → j < ops.size → ((Region.before ops).getD j 0).testBit i = true ∨
      (clash (st.getD i ⟨[], [], 0, 0⟩) (st.getD j ⟨[], [], 0, 0⟩) = false ∧ Oper.apart ops (ops.getD i default) (ops.getD j default) = true) := by
  unfold calmS at hS
  have h' := List.all_eq_true.1 hS
  refine ⟨fun j o e ho he hb => ?_, fun i j hij hj => ?_⟩
  · have hj : j < ops.size := by
      rcases Nat.lt_or_ge j ops.size with c | c
      · exact c
      · rw [Array.getElem?_eq_none c] at ho; cases ho
    have hk := h' j (List.mem_range.2 hj)
    rw [Bool.and_eq_true] at hk
    have hd : ops.getD j default = o := by rw [Array.getD_eq_getD_getElem?, ho]; rfl
    rw [hd] at hk
    have := List.all_eq_true.1 hk.1 e he
    rw [hb] at this
    simpa using this
  · have hk := h' j (List.mem_range.2 hj)
    rw [Bool.and_eq_true] at hk
    have hq := List.all_eq_true.1 hk.2 i (List.mem_range.2 hij)
    rw [Bool.or_eq_true] at hq
    rcases hq with hq | h2
    · exact .inl hq
    · cases hc : clash (st.getD i ⟨[], [], 0, 0⟩) (st.getD j ⟨[], [], 0, 0⟩) with
      | false => exact .inr ⟨rfl, h2⟩
      | true =>
        have nd : idle (st.getD i ⟨[], [], 0, 0⟩) = false ∧ idle (st.getD j ⟨[], [], 0, 0⟩) = false := by
          constructor <;> rw [Bool.eq_false_iff] <;> intro c
          · rw [idle_clash (.inl c)] at hc; cases hc
          · rw [idle_clash (.inr c)] at hc; cases hc
        have get : ∀ k, idle (st.getD k ⟨[], [], 0, 0⟩) = false → (k, st.getD k ⟨[], [], 0, 0⟩) ∈ busy 0 st := fun k hk => by
          have := busy_mem 0 st k (st.getD k ⟨[], [], 0, 0⟩) (by
            rw [List.getD_eq_getElem?_getD] at hk ⊢
            cases hv : st[k]? with
            | none => rw [hv] at hk; simp [idle] at hk
            | some s => rfl) hk
          rwa [Nat.zero_add] at this
        unfold calm at h
        have h1 := List.all_eq_true.1 (List.all_eq_true.1 h _ (get j nd.2)) _ (get i nd.1)
        simp only [hc, hij, decide_true, Bool.not_true, Bool.false_or] at h1
        exact .inl h1
end
end Go.Proofs.Ythjlpklloioknaa.Ex
namespace Go.Proofs.Ythjlpklloioknaa.Ex
open Go
set_option linter.unusedVariables false
set_option linter.unusedSimpArgs false
theorem ready_spec {ops : Array Oper} {listed : Array Bool} {i : Nat} : i ∈ Region.ready .any ops listed ↔
    i < ops.size ∧ listed.getD i true = false ∧ ∃ o, ops[i]? = some o ∧ ∀ e, e ∈ o.after.toList → Region.binds .any e = true → listed.getD e.on false = true := by
  unfold Region.ready
  rw [List.mem_filter, List.mem_range]
  constructor
  · rintro ⟨h1, h2⟩
    rw [Bool.and_eq_true] at h2
    refine ⟨h1, by simpa using h2.1, ops[i], by simp [h1], fun e he hb => ?_⟩
    have h3 := h2.2
    rw [Array.getElem?_eq_getElem h1] at h3
    simp only [Option.map_some, Option.getD_some] at h3
    have := Array.all_eq_true'.1 h3 e (by simpa using he)
    simpa [hb] using this
  · rintro ⟨h1, h2, o, h3, h4⟩
    refine ⟨h1, ?_⟩
    rw [h2, h3]
    simp only [Option.map_some, Option.getD_some, Bool.not_false, Bool.true_and]
    refine Array.all_eq_true'.2 fun e he => ?_
    cases hb : Region.binds .any e with
    | false => rfl
    | true => rw [h4 e (by simpa using he) hb]; rfl
theorem ready_nil {ops : Array Oper} {listed : Array Bool} (hl : listed.size = ops.size) (he : ∀ (j : Nat) (o : Oper) (e : Edge), ops[j]? = some o → e ∈ o.after.toList → Region.binds .any e = true → e.on < j) (h : Region.ready .any ops listed = []) :
    ∀ k, k < ops.size → listed.getD k true = true := by
  intro k
  induction k using Nat.strongRecOn with
  | _ k ih =>
    intro hk
    cases hv : listed.getD k true with
    | true => rfl
    | false =>
      have : k ∈ Region.ready .any ops listed := ready_spec.2 ⟨hk, hv, ops[k], by simp [hk], fun e hm hb => by
        have hlt := he k ops[k] e (by simp [hk]) hm hb
        have := ih e.on hlt (by omega)
        rw [Array.getD_eq_getD_getElem?, Array.getElem?_eq_getElem (by omega)] at this ⊢
        exact this⟩
      rw [h] at this
      cases this
end Go.Proofs.Ythjlpklloioknaa.Ex
namespace Go.Proofs.Ythjlpklloioknaa.Ex
open Go
set_option linter.unusedVariables false
set_option linter.unusedSimpArgs false
section
variable {P : Program}
/-- The setting: the run in the order of the text, what is calm, and a done-set with one more operation. -/
structure Next (P : Program) (ops : Array Oper) (f : Nat → Fr) (h : Nat → Hp) (s : Nat → Step) (S : Nat → Bool) (i : Nat) (o : Oper) (r : Res) : Prop where
  lt : i < ops.size
  op : ops[i]? = some o
  notyet : S i = false
  before : ∀ k, k < i → S k = false → clash (s k) (s i) = false ∧ Oper.apart ops (ops.getD k default) o = true
  after : ∀ k, i < k → k < ops.size → S k = true → clash (s i) (s k) = false ∧ Oper.apart ops o (ops.getD k default) = true
  mono : ∀ j k, j ≤ k → k ≤ ops.size → (h j).length ≤ (h k).length
  rng : ∀ k, k < ops.size → (s k).lo = (h k).length ∧ (s k).hi = (h (k + 1)).length
  tmpk : ∀ t k, k < ops.size → touchT ops t k = false → (f (k + 1)).get t = (f k).get t
  blkk : ∀ id k, k < ops.size → touchB s id k = false → (h (k + 1)).getD id .dead = (h k).getD id .dead
  flen : (f i).n = (f 0).n
  fr : f (i + 1) = putT (f i) o.dst r.v
  hp : h (i + 1) = r.hp
  wr : (s i).wr = r.wr
  shape : Shape (s i).rd (h i) r
variable {ops : Array Oper} {f : Nat → Fr} {h : Nat → Hp} {s : Nat → Step} {S : Nat → Bool} {i : Nat} {o : Oper} {r : Res}
theorem clash_rd {s t : Step} (h : clash s t = false) {b : Nat} : (b ∈ t.rd → hits s b = false) ∧ (b ∈ t.wr → hits s b = false) ∧ (b ∈ s.rd → hits t b = false) ∧ (b ∈ s.wr → hits t b = false) := by
  unfold clash at h
  simp only [Bool.or_eq_false_iff] at h
  obtain ⟨⟨⟨h1, h2⟩, h3⟩, h4⟩ := h
  exact ⟨fun hb => by simpa using List.any_eq_false.1 h1 b hb, fun hb => by simpa using List.any_eq_false.1 h2 b hb, fun hb => by simpa using List.any_eq_false.1 h3 b hb, fun hb => by simpa using List.any_eq_false.1 h4 b hb⟩
theorem Next.tmp (N : Next P ops f h s S i o r) {t : Nat} (ht : t ∈ o.looksAt ops) : (curT ops f S t).1 ≤ i ∧ (curT ops f S t).2 = (f i).get t := by
  have hd : ∀ k, touchT ops t k = true → (ops.getD k default).dst = some t := fun k hk => by
    unfold touchT at hk
    cases hx : ops[k]? with
    | none => rw [hx] at hk; simp at hk
    | some x =>
      rw [hx] at hk
      rw [Array.getD_eq_getD_getElem?, hx]
      cases hy : x.dst with
      | none => simp [hy] at hk
      | some d => simp [hy] at hk; subst hk; exact hy
  refine cur_at (g := fun k => (f k).get t) (fun k hk hT => N.tmpk t k hk hT) (Nat.le_of_lt N.lt) (fun k hk hT => ?_) fun k hk hkn hT => ?_
  · cases hS : S k with
    | true => rfl
    | false => exact absurd ht ((Oper.apart_spec (N.before k hk hS).2).1 t (hd k hT))
  · cases hS : S k with
    | false => rfl
    | true =>
      by_cases e : k = i
      · rw [e, N.notyet] at hS; cases hS
      · exact absurd ht ((Oper.apart_spec (N.after k (by omega) hkn hS).2).2.2 t (hd k hT))
theorem Next.blk (N : Next P ops f h s S i o r) {b : Nat} (hb : b ∈ (s i).rd) : (curB ops h s S b).1 ≤ i ∧ (curB ops h s S b).2 = (h i).getD b .dead := by
  refine cur_at (g := fun k => (h k).getD b .dead) (fun k hk hT => N.blkk b k hk hT) (Nat.le_of_lt N.lt) (fun k hk hT => ?_) fun k hk hkn hT => ?_
  · cases hS : S k with
    | true => rfl
    | false =>
      have := (clash_rd (N.before k hk hS).1).1 hb
      unfold touchB at hT
      rw [this] at hT; cases hT
  · cases hS : S k with
    | false => rfl
    | true =>
      by_cases e : k = i
      · rw [e, N.notyet] at hS; cases hS
      · have := (clash_rd (N.after k (by omega) hkn hS).1 (b := b)).2.2.1 hb
        unfold touchB at hT
        rw [this] at hT; cases hT
def more (S : Nat → Bool) (i : Nat) : Nat → Bool := fun k => S k || k == i
theorem more_ne {k : Nat} (h : k ≠ i) : more S i k = S k := by simp [more, h]
theorem Next.touchT_i (N : Next P ops f h s S i o r) {t : Nat} : touchT ops t i = true ↔ o.dst = some t := by
  unfold touchT
  rw [N.op]
  cases hd : o.dst with
  | none => simp [hd]
  | some d => simp [hd]
theorem Next.tmp_other (N : Next P ops f h s S i o r) {t : Nat} (ht : o.dst ≠ some t) : curT ops f (more S i) t = curT ops f S t :=
  cur_other (i := i) (fun k hk => more_ne hk) (by
    cases hx : touchT ops t i with
    | false => rfl
    | true => exact absurd (N.touchT_i.1 hx) ht) _
theorem Next.tmp_done (N : Next P ops f h s S i o r) {t : Nat} (ht : o.dst = some t) : curT ops f (more S i) t = (i + 1, (f (i + 1)).get t) := by
  refine cur_done (g := fun k => (f k).get t) (S := S) N.lt (by simp [more]) (N.touchT_i.2 ht) fun k hk hkn hT => ?_
  rw [more_ne (by omega)]
  cases hS : S k with
  | false => rfl
  | true =>
    have := (Oper.apart_spec (N.after k hk hkn hS).2).2.1 t ht
    unfold touchT at hT
    cases hx : ops[k]? with
    | none => rw [hx] at hT; simp at hT
    | some x =>
      rw [hx] at hT
      rw [Array.getD_eq_getD_getElem?, hx] at this
      cases hy : x.dst with
      | none => simp [hy] at hT
      | some d => simp [hy] at hT; subst hT; exact absurd hy this
theorem Next.blk_other (N : Next P ops f h s S i o r) {b : Nat} (hb : hits (s i) b = false) : curB ops h s (more S i) b = curB ops h s S b :=
  cur_other (i := i) (fun k hk => more_ne hk) hb _
theorem Next.blk_done (N : Next P ops f h s S i o r) {b : Nat} (hb : hits (s i) b = true) : curB ops h s (more S i) b = (i + 1, (h (i + 1)).getD b .dead) := by
  refine cur_done (g := fun k => (h k).getD b .dead) (S := S) N.lt (by simp [more]) hb fun k hk hkn hT => ?_
  rw [more_ne (by omega)]
  cases hS : S k with
  | false => rfl
  | true =>
    have hc := clash_rd (N.after k hk hkn hS).1 (b := b)
    unfold touchB at hT
    have hb' := hb
    unfold hits at hb hT
    simp only [Bool.or_eq_true, Bool.and_eq_true, decide_eq_true_eq] at hb hT
    rcases hb with hb | hb
    · have := hc.2.2.2 (by simpa using hb)
      unfold hits at this
      simp only [Bool.or_eq_false_iff, Bool.and_eq_false_iff, decide_eq_false_iff_not] at this
      rcases hT with hT | hT
      · rw [hT] at this; cases this.1
      · rcases this.2 with q | q
        · exact absurd hT.1 q
        · exact absurd hT.2 q
    · rcases hT with hT | hT
      · have := hc.2.1 (by simpa using hT)
        rw [hb'] at this; cases this
      · have h1 := (N.rng i N.lt).2
        have h2 := (N.rng k hkn).1
        have h3 := N.mono (i + 1) k hk (Nat.le_of_lt hkn)
        omega
end
end Go.Proofs.Ythjlpklloioknaa.Ex
namespace Go.Proofs.Ythjlpklloioknaa.Ex
open Go
set_option linter.unusedVariables false
set_option linter.unusedSimpArgs false
section
variable {P : Program} {ops : Array Oper} {f : Nat → Fr} {h : Nat → Hp} {s : Nat → Step} {S : Nat → Bool} {i : Nat} {o : Oper} {r : Res} {w0 : World} {ν0 ν : Nu} {m : Nat} {wx : List Nat} {tmps : Array Value} {w : World}
theorem Next.seen (N : Next P ops f h s S i o r) (st : Stand P ops f h s w0 ν0 m wx S ν tmps w) : Seen ops (below ν (h i).length) (f i) tmps o := fun d v hd hv => by
  obtain ⟨h1, h2⟩ := N.tmp hd
  obtain ⟨v', h3, h4⟩ := st.tmp d v (h2.trans hv)
  exact ⟨v', h3, h4.le (below_mono (N.mono _ _ h1 (Nat.le_of_lt N.lt)))⟩
theorem Next.pre (N : Next P ops f h s S i o r) (st : Stand P ops f h s w0 ν0 m wx S ν tmps w) : Pre P (s i).rd (below ν (h i).length) (h i) w := by
  refine ⟨fun id hid => below_out hid, fun id hid => ?_, fun a b A B hab ha hb hoa hlb hA hB => ?_⟩
  · obtain ⟨h1, h2⟩ := N.blk hid
    have := st.blk id
    rw [h2] at this
    exact this.up (below_mono (N.mono _ _ h1 (Nat.le_of_lt N.lt)))
  · rw [← (N.blk ha).2] at hoa
    rw [← (N.blk hb).2] at hlb
    exact st.sep a b A B hab hoa hlb (below_le _ _ hA) (below_le _ _ hB)
end
end Go.Proofs.Ythjlpklloioknaa.Ex
namespace Go.Proofs.Ythjlpklloioknaa.Ex
open Go
set_option linter.unusedVariables false
set_option linter.unusedSimpArgs false
section
variable {P : Program} {ops : Array Oper} {f : Nat → Fr} {h : Nat → Hp} {s : Nat → Step} {S : Nat → Bool} {i : Nat} {o : Oper} {r : Res} {w0 : World} {ν0 ν : Nu} {m : Nat} {wx : List Nat} {a : Act} {w : World}
def joined (ν ν1 : Nu) (l k : Nat) : Nu := fun id => if l ≤ id ∧ id < k then ν1 id else ν id
theorem Stand.step (N : Next P ops f h s S i o r) (st : Stand P ops f h s w0 ν0 m wx S ν a.tmps w) {ν1 : Nu} {v' : Value} {w' : World}
    (p : Post P (s i).rd (below ν (h i).length) (h i) w r ν1 w') (hv : VR ν1 r.v v') : Stand P ops f h s w0 ν0 m wx (more S i) (joined ν ν1 (h i).length (h (i + 1)).length) (a.put o.dst v').tmps w' := by
  have hLL : (h i).length ≤ (h (i + 1)).length := N.mono i (i + 1) (by omega) N.lt
  have h0L : (h 0).length ≤ (h i).length := N.mono 0 i (by omega) (Nat.le_of_lt N.lt)
  have jin : ∀ id, (h i).length ≤ id → id < (h (i + 1)).length → joined ν ν1 (h i).length (h (i + 1)).length id = ν1 id := fun id h1 h2 => if_pos ⟨h1, h2⟩
  have jout : ∀ id, ¬ ((h i).length ≤ id ∧ id < (h (i + 1)).length) → joined ν ν1 (h i).length (h (i + 1)).length id = ν id := fun id h1 => if_neg h1
  have e1 : below (joined ν ν1 (h i).length (h (i + 1)).length) (h (i + 1)).length = ν1 := by
    funext id
    rcases Nat.lt_or_ge id (h (i + 1)).length with c | c
    · rw [below_in c]
      rcases Nat.lt_or_ge id (h i).length with d | d
      · rw [jout id (by omega), p.same id d, below_in d]
      · exact jin id d c
    · rw [below_out c, p.dom id (by rw [← N.hp]; exact c)]
  have le : Le ν (joined ν ν1 (h i).length (h (i + 1)).length) := fun id M hM => by
    by_cases c : (h i).length ≤ id ∧ id < (h (i + 1)).length
    · rw [st.made i id N.lt N.notyet c.1 c.2] at hM; cases hM
    · rw [jout id c]; exact hM
  have leb : ∀ n, Le (below ν n) (below (joined ν ν1 (h i).length (h (i + 1)).length) n) := fun n id M hM => by
    unfold below at hM ⊢
    split at hM
    · rw [if_pos (by assumption)]; exact le id M hM
    · cases hM
  have hitq : ∀ id, hits (s i) id = true ↔ (id ∈ r.wr ∨ ((h i).length ≤ id ∧ id < (h (i + 1)).length)) := fun id => by
    unfold hits
    rw [N.wr, (N.rng i N.lt).1, (N.rng i N.lt).2]
    simp
  have hitn : ∀ id, hits (s i) id = false → ¬ id ∈ r.wr ∧ ¬ ((h i).length ≤ id ∧ id < (h (i + 1)).length) := fun id hid => by
    refine ⟨fun c => ?_, fun c => ?_⟩
    · rw [(hitq id).2 (.inl c)] at hid; cases hid
    · rw [(hitq id).2 (.inr c)] at hid; cases hid
  -- a written block, before
  have wown : ∀ j, j ∈ r.wr → (curB ops h s S j).2.isOwn = true ∧ j < (h i).length := fun j hj => by
    have hjF := (N.shape.wr j hj)
    rw [(N.blk hjF.1).2]
    exact ⟨N.shape.own j hj, hjF.2⟩
  have lt : ∀ id M, (curB ops h s S id).2.live = true → ν id = some M → below ν (h (curB ops h s S id).1).length id = some M → M.g < w.heap.size := fun id M hl _ hM => (st.blk id).lt hl hM
  have named : ∀ id M, (curB ops h s S id).2.live = true → ν id = some M → M.g < w.heap.size := fun id M hl hM => by
    have hb := st.blk id
    have : ∃ K, below ν (h (curB ops h s S id).1).length id = some K := by
      cases hk : (curB ops h s S id).2 with
      | dead => rw [hk] at hl; cases hl
      | own e cs => rw [hk] at hb; obtain ⟨g, cur, lo, hi, q, _⟩ := hb; exact ⟨_, q⟩
      | ro e cs => rw [hk] at hb; obtain ⟨K, q, _⟩ := hb; exact ⟨_, q⟩
    obtain ⟨K, hK⟩ := this
    have := below_le _ _ hK
    rw [hM] at this
    cases this
    exact hb.lt hl hK
  have bdone : ∀ id, hits (s i) id = true → (curB ops h s (more S i) id) = (i + 1, r.hp.getD id .dead) := fun id hid => by rw [N.blk_done hid, N.hp]
  have hitF : ∀ id, hits (s i) id = true → id ∈ (s i).rd ∨ (h i).length ≤ id := fun id hid => ((hitq id).1 hid).imp (fun c => (N.shape.wr id c).1) (fun c => c.1)
  have jhit : ∀ id, hits (s i) id = true → joined ν ν1 (h i).length (h (i + 1)).length id = ν1 id := fun id hid => by
    rcases (hitq id).1 hid with c | c
    · have := (wown id c).2
      rw [jout id (by omega), p.same id this, below_in this]
    · exact jin id c.1 c.2
  have cross : ∀ x y M K, hits (s i) x = true → hits (s i) y = false → (r.hp.getD x .dead).live = true → (curB ops h s S y).2.live = true → ν1 x = some M → ν y = some K → M.g ≠ K.g := fun x y M K hx hy hxl hyl hM hK => by
    rcases (hitq x).1 hx with c | c
    · have hw := wown x c
      rw [p.same x hw.2, below_in hw.2] at hM
      exact st.sep x y M K (fun e => (hitn y hy).1 (e ▸ c)) hw.1 hyl hM hK
    · rcases p.fresh x M c.1 hxl hM with q | ⟨j, J, q1, q2, q3⟩
      · have := named y K hyl hK
        omega
      · rw [← q3]
        exact st.sep j y J K (fun e => (hitn y hy).1 (e ▸ q1)) (wown j q1).1 hyl (below_le _ _ q2) hK
  refine ⟨by cases hd : o.dst <;> simp [Act.put, st.tlen], fun t v ht => ?_, fun id => ?_, fun id hid => ?_, fun k id hk hSk h1 h2 => ?_, fun x y M K hxy hox hly hM hK => ?_, st.len, fun id hid => ?_, p.os.trans st.os, p.tape.trans st.tape, p.output.trans st.output, Nat.le_trans st.size p.size, fun g hg hfr => ?_, fun id M hid hl hM => ?_⟩
  · by_cases hd : o.dst = some t
    · rw [N.tmp_done hd] at ht ⊢
      simp only [N.fr, hd, putT] at ht
      obtain ⟨hlt, ht⟩ := Fr.get_set _ ht
      cases ht
      refine ⟨v', ?_, by rw [e1]; exact hv⟩
      have : t < a.tmps.size := by rw [← st.tlen, ← N.flen]; exact hlt
      simp [Act.put, hd, this]
    · rw [N.tmp_other hd] at ht ⊢
      obtain ⟨u', h1, h2⟩ := st.tmp t v ht
      refine ⟨u', ?_, h2.le (leb _)⟩
      cases hx : o.dst with
      | none => exact h1
      | some d =>
        have hne : d ≠ t := fun e => hd (by rw [hx, e])
        simp only [Act.put]
        rw [Array.getElem?_setIfInBounds_ne hne]
        exact h1
  · cases hh : hits (s i) id with
    | true =>
      rw [bdone id hh, e1]
      exact p.blk id (hitF id hh)
    | false =>
      rw [N.blk_other hh]
      refine (st.blk id).le (leb _) (fun M hM hl => p.frame M.g ((st.blk id).lt hl hM) fun j J hj hJ => ?_) p.size
      exact st.sep j id J M (fun e => (hitn id hh).1 (e ▸ hj)) (wown j hj).1 hl (below_le _ _ hJ) (below_le _ _ hM)
  · have := N.mono (i + 1) ops.size N.lt (Nat.le_refl _)
    rw [jout id (by omega)]
    exact st.over id hid
  · have hki : k ≠ i := fun e => by rw [e] at hSk; simp [more] at hSk
    rw [more_ne hki] at hSk
    rw [jout id (fun c => by
      rcases Nat.lt_or_ge k i with d | d
      · have := N.mono (k + 1) i d (Nat.le_of_lt N.lt); omega
      · have := N.mono (i + 1) k (by omega) (Nat.le_of_lt hk); omega)]
    exact st.made k id hk hSk h1 h2
  · cases hx : hits (s i) x with
    | true =>
      rw [jhit x hx] at hM
      rw [bdone x hx] at hox
      cases hy : hits (s i) y with
      | true =>
        rw [jhit y hy] at hK
        rw [bdone y hy] at hly
        exact p.sep x y M K hxy (hitF x hx) (hitF y hy) hox hly hM hK
      | false =>
        rw [N.blk_other hy] at hly
        rw [jout y (hitn y hy).2] at hK
        exact cross x y M K hx hy (own_live hox) hly hM hK
    | false =>
      rw [N.blk_other hx] at hox
      rw [jout x (hitn x hx).2] at hM
      cases hy : hits (s i) y with
      | true =>
        rw [jhit y hy] at hK
        rw [bdone y hy] at hly
        exact fun e => cross y x K M hy hx hly (own_live hox) hK hM e.symm
      | false =>
        rw [N.blk_other hy] at hly
        rw [jout y (hitn y hy).2] at hK
        exact st.sep x y M K hxy hox hly hM hK
  · have := st.len
    rw [jout id (by omega)]
    exact st.same id hid
  · have up : ∀ j, (j ∈ wx ∨ ∃ k, k < ops.size ∧ S k = true ∧ j ∈ (s k).wr) → (j ∈ wx ∨ ∃ k, k < ops.size ∧ more S i k = true ∧ j ∈ (s k).wr) := fun j hj => hj.imp (fun x => x) fun ⟨k, k1, k2, k3⟩ => ⟨k, k1, by simp [more, k2], k3⟩
    have h1 := st.frame g hg fun id M hid hw hM => hfr id M hid (up id hw) hM
    rw [← h1]
    refine p.frame g (Nat.lt_of_lt_of_le hg st.size) fun j J hj hJ => ?_
    have hJ' := below_le _ _ hJ
    rcases Nat.lt_or_ge j m with c | c
    · rw [st.same j c] at hJ'
      exact hfr j J c (.inr ⟨i, N.lt, by simp [more], by rw [N.wr]; exact hj⟩) hJ'
    · rcases st.fresh j J c (own_live (wown j hj).1) hJ' with q | ⟨k, K, q1, q2, q3, q4⟩
      · omega
      · rw [← q4]
        exact hfr k K q1 (up k q2) q3
  · have up : ∀ j, (j ∈ wx ∨ ∃ k, k < ops.size ∧ S k = true ∧ j ∈ (s k).wr) → (j ∈ wx ∨ ∃ k, k < ops.size ∧ more S i k = true ∧ j ∈ (s k).wr) := fun j hj => hj.imp (fun x => x) fun ⟨k, k1, k2, k3⟩ => ⟨k, k1, by simp [more, k2], k3⟩
    have old : ∀ id M, m ≤ id → (curB ops h s S id).2.live = true → ν id = some M → w0.heap.size ≤ M.g ∨ ∃ j K, j < m ∧ (j ∈ wx ∨ ∃ k, k < ops.size ∧ more S i k = true ∧ j ∈ (s k).wr) ∧ ν0 j = some K ∧ K.g = M.g := fun id M hid hl hM =>
      (st.fresh id M hid hl hM).imp (fun x => x) fun ⟨j, K, q1, q2, q3⟩ => ⟨j, K, q1, up j q2, q3⟩
    cases hh : hits (s i) id with
    | false =>
      rw [N.blk_other hh] at hl
      rw [jout id (hitn id hh).2] at hM
      exact old id M hid hl hM
    | true =>
      rw [jhit id hh] at hM
      rw [bdone id hh] at hl
      rcases (hitq id).1 hh with c | c
      · have hw := wown id c
        rw [p.same id hw.2, below_in hw.2] at hM
        exact old id M hid (own_live hw.1) hM
      · rcases p.fresh id M c.1 hl hM with q | ⟨j, J, q1, q2, q3⟩
        · exact .inl (Nat.le_trans st.size q)
        · have hJ' := below_le _ _ q2
          rcases Nat.lt_or_ge j m with d | d
          · rw [st.same j d] at hJ'
            exact .inr ⟨j, J, d, .inr ⟨i, N.lt, by simp [more], by rw [N.wr]; exact q1⟩, hJ', q3⟩
          · rw [← q3]
            exact old j J d (own_live (wown j q1).1) hJ'
end
end Go.Proofs.Ythjlpklloioknaa.Ex
namespace Go.Proofs.Ythjlpklloioknaa.Ex
open Go
set_option linter.unusedVariables false
set_option linter.unusedSimpArgs false
section
variable {P : Program} {ops : Array Oper}
theorem more_set {listed : Array Bool} {i : Nat} (hi : i < listed.size) : (fun k => (listed.setIfInBounds i true).getD k false) = more (fun k => listed.getD k false) i := by
  funext k
  show (listed.setIfInBounds i true).getD k false = (listed.getD k false || k == i)
  rw [Array.getD_eq_getD_getElem?, Array.getD_eq_getD_getElem?, Array.getElem?_setIfInBounds]
  by_cases c : i = k
  · subst c; simp [hi]
  · rw [if_neg c]
    have : (k == i) = false := by simpa using fun e => c e.symm
    simp [this]
/-- The run in the order of the text, and what is calm. -/
structure Text (P : Program) (ops : Array Oper) (f : Nat → Fr) (h : Nat → Hp) (s : Nat → Step) : Prop where
  one : ∀ (k : Nat) (o : Oper), ops[k]? = some o → OneStep P ops o (f k) (h k) (f (k + 1)) (h (k + 1)) (s k)
  back : ∀ (j : Nat) (o : Oper) (e : Edge), ops[j]? = some o → e ∈ o.after.toList → Region.binds .any e = true → e.on < j
  calm : ∀ i j, i < j → j < ops.size → ((Region.before ops).getD j 0).testBit i = true ∨ (clash (s i) (s j) = false ∧ Oper.apart ops (ops.getD i default) (ops.getD j default) = true)
variable {f : Nat → Fr} {h : Nat → Hp} {s : Nat → Step}
theorem Text.at (T : Text P ops f h s) {k : Nat} (hk : k < ops.size) : OneStep P ops (ops.getD k default) (f k) (h k) (f (k + 1)) (h (k + 1)) (s k) :=
  T.one k _ (by rw [Array.getD_eq_getD_getElem?, Array.getElem?_eq_getElem hk]; rfl)
theorem Text.mono (T : Text P ops f h s) : ∀ j k, j ≤ k → k ≤ ops.size → (h j).length ≤ (h k).length
  | j, 0, hj, _ => by obtain rfl : j = 0 := by omega
                      exact Nat.le_refl _
  | j, k + 1, hj, hk => by
    by_cases c : j = k + 1
    · rw [c]; exact Nat.le_refl _
    · exact Nat.le_trans (T.mono j k (by omega) (by omega)) (T.at (by omega)).mono
theorem Text.flen (T : Text P ops f h s) : ∀ k, k ≤ ops.size → (f k).n = (f 0).n
  | 0, _ => rfl
  | k + 1, hk => (T.at (by omega)).flen.trans (T.flen k (by omega))
theorem OneStep.rng {o : Oper} {fr fr' : Fr} {hp hp' : Hp} {st : Step} {all : Array Oper} (q : OneStep P all o fr hp fr' hp' st) : st.lo = hp.length ∧ st.hi = hp'.length := by
  rcases q with ⟨_, r, _, _, rfl, rfl⟩ | ⟨_, _, rfl, rfl⟩ <;> exact ⟨rfl, rfl⟩
theorem touchT_not {t k : Nat} (hk : k < ops.size) (h : touchT ops t k = false) : (ops.getD k default).dst ≠ some t := by
  intro e
  unfold touchT at h
  rw [Array.getD_eq_getD_getElem?, Array.getElem?_eq_getElem hk] at e
  rw [Array.getElem?_eq_getElem hk] at h
  simp only [Option.getD_some] at e
  simp [e] at h
theorem Text.next (T : Text P ops f h s) {S : Nat → Bool} {i : Nat} {o : Oper} {r : Res} (hi : i < ops.size) (ho : ops[i]? = some o) (hS : S i = false)
    (hcl : ∀ j k, j < ops.size → S j = true → ((Region.before ops).getD j 0).testBit k = true → S k = true) (hrd : ∀ k, ((Region.before ops).getD i 0).testBit k = true → S k = true)
    (hfr : f (i + 1) = putT (f i) o.dst r.v) (hhp : h (i + 1) = r.hp) (hwr : (s i).wr = r.wr) (hsh : Shape (s i).rd (h i) r) : Next P ops f h s S i o r where
  lt := hi
  op := ho
  notyet := hS
  before := fun k hk hSk => by
    rcases T.calm k i hk hi with c | c
    · rw [hrd k c] at hSk; cases hSk
    · have : ops.getD i default = o := by rw [Array.getD_eq_getD_getElem?, ho]; rfl
      rw [this] at c
      exact c
  after := fun k hk hkn hSk => by
    rcases T.calm i k hk hkn with c | c
    · rw [hcl k i hkn hSk c] at hS; cases hS
    · have : ops.getD i default = o := by rw [Array.getD_eq_getD_getElem?, ho]; rfl
      rw [this] at c
      exact c
  mono := T.mono
  rng := fun k hk => (T.at hk).rng
  tmpk := fun t k hk ht => (T.at hk).tmp (touchT_not hk ht)
  blkk := fun id k hk hid => (T.at hk).blk hid
  flen := T.flen i (Nat.le_of_lt hi)
  fr := hfr
  hp := hhp
  wr := hwr
  shape := hsh
end
end Go.Proofs.Ythjlpklloioknaa.Ex
namespace Go.Proofs.Ythjlpklloioknaa.Ex
open Go
set_option linter.unusedVariables false
set_option linter.unusedSimpArgs false
section
variable {P : Program} {ops : Array Oper} {f : Nat → Fr} {h : Nat → Hp} {s : Nat → Step} {w0 : World} {ν0 : Nu} {m : Nat} {wx : List Nat}
def don (listed : Array Bool) : Nat → Bool := fun k => listed.getD k false
theorem Text.op (T : Text P ops f h s) {listed : Array Bool} {i : Nat} (hl : listed.size = ops.size) (hcl : ∀ (j : Nat) (o : Oper) (e : Edge), don listed j = true → ops[j]? = some o → e ∈ o.after.toList → Region.binds .any e = true → don listed e.on = true)
    (hi : i ∈ Region.ready .any ops listed) {ν : Nu} {a : Act} {w : World} (st : Stand P ops f h s w0 ν0 m wx (don listed) ν a.tmps w) {Q : Exit → Act → World → Prop} {K : Act → World → Prop}
    (hK : ∀ ν' a' w', Stand P ops f h s w0 ν0 m wx (don (listed.setIfInBounds i true)) ν' a'.tmps w' → a'.defers = a.defers → K a' w') : wpOp P ops Q i K a w := by
  obtain ⟨hin, hno, o, ho, hed⟩ := ready_spec.1 hi
  have hS : don listed i = false := by
    unfold don
    rw [Array.getD_eq_getD_getElem?, Array.getElem?_eq_getElem (by omega)] at hno ⊢
    exact hno
  have cl := before_closed (ops := ops) (S := fun k => don listed k = true) (fun j o e h1 h2 h3 h4 => hcl j o e h1 h2 h3 h4)
  have hrd : ∀ k, ((Region.before ops).getD i 0).testBit k = true → don listed k = true := fun k hb => by
    obtain ⟨o', e, q1, q2, q3, q4⟩ := before_edge hb
    rw [ho] at q1
    cases q1
    have he : don listed e.on = true := hed e q2 q3
    rcases q4 with rfl | ⟨_, q⟩
    · exact he
    · exact cl e.on k he q
  have hm : don (listed.setIfInBounds i true) = more (don listed) i := more_set (by omega)
  unfold wpOp
  rw [ho]
  dsimp only
  rcases T.one i o ho with ⟨hw, r, hr, e1, e2, e3⟩ | ⟨hw, e1, e2, e3⟩
  · have N : Next P ops f h s (don listed) i o r := T.next hin ho hS (fun j k _ h1 h2 => cl j k h1 h2) hrd e1 e2 (by rw [e3]) (by rw [e3]; exact hr.1)
    rw [if_pos (hw _ _ (N.seen st))]
    refine .inl (hr.2 _ a w (N.seen st).env (by have := N.pre st; rw [e3] at this; exact this) _ _ fun ν1 v' w' p hv => ?_)
    have q := Stand.step N st (by rw [e3]; exact p) hv
    rw [← hm] at q
    exact hK _ _ _ q put_defers
  · have N : Next P ops f h s (don listed) i o ⟨undef, h i, []⟩ := T.next hin ho hS (fun j k _ h1 h2 => cl j k h1 h2) hrd e1 e2 (by rw [e3]) (by rw [e3]; exact Shape.same _)
    rw [if_neg (by rw [hw _ _ (N.seen st)]; simp)]
    have q := Stand.step N st (v' := undef) (Post.refl_ (N.pre st) undef) ⟨#[], rfl, .nil⟩
    rw [← hm] at q
    exact hK _ _ _ q put_defers
end
end Go.Proofs.Ythjlpklloioknaa.Ex
namespace Go.Proofs.Ythjlpklloioknaa.Ex
open Go
set_option linter.unusedVariables false
set_option linter.unusedSimpArgs false
section
variable {P : Program} {ops : Array Oper} {f : Nat → Fr} {h : Nat → Hp} {s : Nat → Step} {w0 : World} {ν0 : Nu} {m : Nat} {wx : List Nat}
def rest (listed : Array Bool) : Nat := (listed.toList.filter fun b => !b).length
theorem rest_set : ∀ (l : List Bool) (i : Nat), l[i]? = some false → ((l.set i true).filter fun b => !b).length + 1 = (l.filter fun b => !b).length
  | [], i, h => by simp at h
  | x :: l, 0, h => by simp at h; subst h; simp
  | x :: l, i + 1, h => by
    have := rest_set l i (by simpa using h)
    cases x <;> simp at this ⊢ <;> omega
theorem Text.any (T : Text P ops f h s) {Q : Exit → Act → World → Prop} {d : List Deferred}
    (hQ : ∀ S ν (a : Act) w, (∀ k, k < ops.size → S k = true) → Stand P ops f h s w0 ν0 m wx S ν a.tmps w → a.defers = d → Q .normal a w) :
    ∀ (n : Nat) (listed : Array Bool) (ν : Nu) (a : Act) (w : World), rest listed = n → listed.size = ops.size →
      (∀ (j : Nat) (o : Oper) (e : Edge), don listed j = true → ops[j]? = some o → e ∈ o.after.toList → Region.binds .any e = true → don listed e.on = true) →
      Stand P ops f h s w0 ν0 m wx (don listed) ν a.tmps w → a.defers = d → wpAny P .any ops Q n listed a w := by
  have fin : ∀ (listed : Array Bool) (ν : Nu) (a : Act) (w : World), listed.size = ops.size → Stand P ops f h s w0 ν0 m wx (don listed) ν a.tmps w → a.defers = d → Region.ready .any ops listed = [] → Q .normal a w :=
    fun listed ν a w hl st hd hr => hQ _ ν a w (fun k hk => by
      have := ready_nil hl T.back hr k hk
      unfold don
      rw [Array.getD_eq_getD_getElem?, Array.getElem?_eq_getElem (by omega)] at this ⊢
      exact this) st hd
  intro n
  induction n with
  | zero =>
    intro listed ν a w hn hl hcl st hd
    have hr : Region.ready .any ops listed = [] := by
      cases hx : Region.ready .any ops listed with
      | nil => rfl
      | cons i r =>
        obtain ⟨h1, h2, _⟩ := ready_spec.1 (by rw [hx]; simp : i ∈ Region.ready .any ops listed)
        rw [Array.getD_eq_getD_getElem?, Array.getElem?_eq_getElem (by omega)] at h2
        have := rest_set listed.toList i (by rw [Array.getElem?_toList, Array.getElem?_eq_getElem (by omega)]; simpa using h2)
        unfold rest at hn
        omega
    exact ⟨hr, fin listed ν a w hl st hd hr⟩
  | succ n ih =>
    intro listed ν a w hn hl hcl st hd
    refine ⟨fin listed ν a w hl st hd, fun i hi => T.op hl hcl hi st fun ν' a' w' st' hd' => ih _ ν' a' w' ?_ (by simpa using hl) ?_ st' (hd'.trans hd)⟩
    · obtain ⟨h1, h2, _⟩ := ready_spec.1 hi
      rw [Array.getD_eq_getD_getElem?, Array.getElem?_eq_getElem (by omega)] at h2
      have := rest_set listed.toList i (by rw [Array.getElem?_toList, Array.getElem?_eq_getElem (by omega)]; simpa using h2)
      unfold rest at hn ⊢
      rw [Array.toList_setIfInBounds]
      omega
    · obtain ⟨h1, _, o, ho, hed⟩ := ready_spec.1 hi
      have hm : don (listed.setIfInBounds i true) = more (don listed) i := more_set (by omega)
      intro j o' e hj ho' he hb
      rw [hm] at hj ⊢
      unfold more at hj ⊢
      rw [Bool.or_eq_true] at hj ⊢
      rcases hj with hj | hj
      · exact .inl (hcl j o' e hj ho' he hb)
      · have : j = i := by simpa using hj
        subst this
        rw [ho] at ho'
        cases ho'
        exact .inl (hed e he hb)
theorem drawn_sat {call : CallF} (hN : Named P) (hm : P.follows .mixedOrders = true) (hcall : Sound P call) : Drawn P call := by
  intro id m ops fr hp hcs
  refine Sat.bind (seqs_sat hN hcall ops.toList fr hp [] []) fun r hr => Sat.bind_chk fun hc => Sat.ret _ ?_
  obtain ⟨f, h, s, e1, e2, e3, e4, e5, e6, e7⟩ := hr
  subst e1
  subst e2
  intro w0 ν0 ν wx a w Q hi hfr hQ
  rw [e7] at hc
  obtain ⟨hb, hcl⟩ := calm_spec hcs hc
  have hst : ∀ k, k < ops.size → (([] : List Step).reverse ++ (List.range ops.toList.length).map s).getD k ⟨[], [], 0, 0⟩ = s k := fun k hk => by
    simp [List.getD_eq_getElem?_getD, List.getElem?_range, hk]
  have T : Text P ops f h s := ⟨fun k o ho => e3 k o (by simpa using ho), hb, fun i j hij hj => by
    have := hcl i j hij hj
    rw [hst i (by omega), hst j hj] at this
    exact this⟩
  have hn : ops.toList.length = ops.size := by simp
  rw [hn] at e4 e5 e6
  have hi' : Inv P w0 ν0 m ν (h 0) wx { w with drawn := w.drawn + 1 } := ⟨⟨hi.rep.dom, fun id => (hi.rep.blk id).le (Le.refl _) (fun _ _ _ => rfl) (Nat.le_refl _), hi.rep.sep⟩, hi.len, hi.same, hi.os, hi.tape, hi.output, hi.size, hi.frame, hi.fresh⟩
  have hdon : don (Array.replicate ops.size false) = fun _ => false := by
    funext k
    unfold don
    rw [Array.getD_eq_getD_getElem?, Array.getElem?_replicate]
    split <;> rfl
  have hst0 := Stand.init (ops := ops) (s := s) (fun k hk => T.mono 0 k (Nat.zero_le _) hk) hi' hfr
  rw [← hdon] at hst0
  refine wp_region_any hm (T.any (m := m) (wx := wx) (w0 := w0) (ν0 := ν0) (d := a.defers) (fun S ν' a' w' hS st hd => ?_) ops.size (Array.replicate ops.size false) ν a _ ?_ (by simp) (fun j o e hj => by rw [hdon] at hj; cases hj) hst0 rfl)
  · obtain ⟨k1, k2⟩ := Stand.final (wr := r.2.2.1) (T.mono 0 ops.size (Nat.zero_le _) (Nat.le_refl _)) (T.flen ops.size (Nat.le_refl _)) hS (fun id => by rw [e6]; simp) (fun t k hk ht => (T.at hk).tmp (touchT_not hk ht)) (fun id k hk hid => (T.at hk).blk hid) st
    rw [e5] at k1
    rw [e4] at k2
    exact hQ ν' a' w' k1 k2 hd
  · unfold rest
    simp
end
end Go.Proofs.Ythjlpklloioknaa.Ex
namespace Go.Proofs.Ythjlpklloioknaa.Ex
open Go
theorem exec_ok {P : Program} (hN : Named P) (hC : Calm P) (hm : P.follows .mixedOrders = true) (n : Nat) (g : FuncId) (args : List Value) (hp : Hp) : Sat (exec P n g args hp) (CallSpec P g args hp) :=
  exec_sat hN hC (fun _ hS => drawn_sat hN hm hS) n g args hp
theorem go_ok {α : Type} {x : M α} {R : α → Prop} (hx : Sat x R) {orc : Orcs} {a : α} {owe : List Prop} (h : go x orc = some (a, true, owe)) (ho : ∀ p, p ∈ owe → p) : R a := by
  unfold go at h
  cases hr : x orc with
  | none => rw [hr] at h; cases h
  | some r =>
    rw [hr] at h
    simp only [Option.bind_some] at h
    split at h
    · simp only [Option.some.injEq, Prod.mk.injEq] at h
      obtain ⟨h1, h2, h3⟩ := h
      subst h1
      exact hx orc r hr ⟨h2, fun p hp => ho p (by rw [← h3]; exact hp)⟩
    · cases h
end Go.Proofs.Ythjlpklloioknaa.Ex
namespace Go.Proofs.Ythjlpklloioknaa.Ex
open Go
set_option linter.unusedVariables false
section
variable {P : Program} {fr : Fr} {hp : Hp} {m : Nat} {c : Code}
theorem CodeSpec.tidy_out {keep : List Nat} {o o2 : Out} (hs : CodeSpec P m c fr hp o) (h : tidy P m keep o = some o2) : CodeSpec P m c fr hp o2 :=
  fun w0 ν0 ν wr a w Q hi hfr hQ => hs w0 ν0 ν wr a w Q hi hfr fun ν' a' w' k1 k2 k3 => by
    obtain ⟨e1, e2, h3⟩ := tidy_inv h
    obtain ⟨ν2, h1, h2⟩ := h3 k1 k2
    rw [← e1]
    refine hQ ν2 a' w' (h1.wrs fun j hj hm => ?_) h2 k3
    rw [e2]
    simp only [List.mem_append, List.mem_filter, decide_eq_true_eq] at hj ⊢
    exact hj.imp (fun h => ⟨h, hm⟩) id
theorem CodeSpec.wrs {e : Xt} {fr' : Fr} {hp' : Hp} {wr wr' : List Nat} (hs : CodeSpec P m c fr hp ⟨e, fr', hp', wr⟩) (h : ∀ j, j ∈ wr → j < m → j ∈ wr') : CodeSpec P m c fr hp ⟨e, fr', hp', wr'⟩ :=
  fun w0 ν0 ν wx a w Q hi hfr hQ => hs w0 ν0 ν wx a w Q hi hfr fun ν' a' w' k1 k2 k3 => hQ ν' a' w' (k1.wrs fun j hj hm => by
    simp only [List.mem_append] at hj ⊢
    exact hj.imp (fun hj => h j hj hm) id) k2 k3
def LoopSpec (P : Program) (m : Nat) (c : Code) (fr : Fr) (hp : Hp) (o : Out) : Prop :=
  ∃ n, ∀ w0 ν0 ν wr (a : Act) w (Q : Exit → Act → World → Prop), Inv P w0 ν0 m ν hp wr w → FrRel ν fr a.tmps →
    (∀ ν' (a' : Act) w', Inv P w0 ν0 m ν' o.hp (o.wr ++ wr) w' → FrRel ν' o.fr a'.tmps → a'.defers = a.defers → Q o.ex.of a' w') → Code.rounds P c Q n a w
theorem LoopSpec.more {o1 o : Out} (h1 : CodeSpec P m c fr hp o1) (he : o1.ex = .normal) (h2 : LoopSpec P m c o1.fr o1.hp o) (hw : ∀ j, j ∈ o1.wr → j < m → j ∈ o.wr) : LoopSpec P m c fr hp o := by
  obtain ⟨n, h2⟩ := h2
  refine ⟨n + 1, fun w0 ν0 ν wx a w Q hi hfr hQ => ?_⟩
  rw [rounds_succ]
  refine h1 w0 ν0 ν wx a w _ hi hfr fun ν' a' w' k1 k2 k3 => ?_
  rw [he]
  refine h2 w0 ν0 ν' (o1.wr ++ wx) a' w' Q k1 k2 fun ν2 a2 w2 q1 q2 q3 => hQ ν2 a2 w2 (q1.wrs fun j hj hm => ?_) q2 (q3.trans k3)
  simp only [List.mem_append] at hj ⊢
  rcases hj with h | h | h
  · exact .inl h
  · exact .inl (hw j h hm)
  · exact .inr h
def body (P : Program) (k m n : Nat) (keep : Xt → List Nat) (c : Code) (fr : Fr) (hp : Hp) : M Out := (run P (callA P (toldA P (exec P k))) m n c fr hp).bind fun o => lift (tidy P m (keep o.ex) o)
def Res.le (a b : Res) : Prop := a.v = b.v ∧ a.hp = b.hp ∧ ∀ j, j ∈ a.wr → j ∈ b.wr
def Out.le (a b : Out) : Prop := a.ex = b.ex ∧ a.fr = b.fr ∧ a.hp = b.hp ∧ ∀ j, j ∈ a.wr → j ∈ b.wr
theorem CallSpec.id {f : FuncId} {args : List Value} {r : Res} (h : CallSpec P f args hp r) : CallSpec P f args hp r := h
theorem CodeSpec.id {o : Out} (h : CodeSpec P m c fr hp o) : CodeSpec P m c fr hp o := h
theorem CallSpec.le {f : FuncId} {args : List Value} {a b : Res} (h : CallSpec P f args hp a) (hl : Res.le a b) : CallSpec P f args hp b := by
  obtain ⟨v, h1, w⟩ := a
  obtain ⟨v', h1', w'⟩ := b
  obtain ⟨rfl, rfl, hw⟩ := hl
  exact fun ν W args' ha hr => (h ν W args' ha hr).mono fun e W' ⟨u, ν', h2, h3, h4⟩ => ⟨u, ν', h2, h3, h4.wrs fun j hj _ => hw j hj⟩
theorem CodeSpec.le {a b : Out} (h : CodeSpec P m c fr hp a) (hl : Out.le a b) : CodeSpec P m c fr hp b := by
  obtain ⟨e, f, h1, w⟩ := a
  obtain ⟨e', f', h1', w'⟩ := b
  obtain ⟨rfl, rfl, rfl, hw⟩ := hl
  exact h.wrs fun j hj _ => hw j hj
theorem all_nil : ∀ p, p ∈ ([] : List Prop) → p := fun _ h => by cases h
theorem all_cons {q : Prop} {l : List Prop} (h : q) (hl : ∀ p, p ∈ l → p) : ∀ p, p ∈ q :: l → p := fun p hp => by
  rcases List.mem_cons.1 hp with rfl | hp
  · exact h
  · exact hl p hp
end
end Go.Proofs.Ythjlpklloioknaa.Ex
namespace Go.Proofs.Ythjlpklloioknaa.Ex
open Go
theorem tnamed : Named Try.prog := by
  have h : (Try.prog.funcs.toList.all fun fn => !(fn.name == "runtime.NumGoroutine")) = true := by kernel_rfl
  intro g fn hg
  have := List.all_eq_true.1 h fn (Array.mem_toList_iff.2 (Array.mem_of_getElem? hg))
  simpa using this
theorem tmixed : Try.prog.follows .mixedOrders = true := by kernel_rfl
def calmF (fn : Func) : Bool := match fn.body with | some c => calmC c | none => true
theorem tcalm : Calm Try.prog := by
  have h : (Try.prog.funcs.toList.all calmF) = true := by kernel_rfl
  intro g fn c hg hc
  have := List.all_eq_true.1 h fn (Array.mem_toList_iff.2 (Array.mem_of_getElem? hg))
  unfold calmF at this
  rw [hc] at this
  exact this
end Go.Proofs.Ythjlpklloioknaa.Ex
end
namespace Go.Proofs.Ythjlpklloioknaa.Ex
theorem aN : ∀ p, p ∈ ([] : List Prop) → p := all_nil
theorem aC {q : Prop} {l : List Prop} (h : q) (hl : ∀ p, p ∈ l → p) : ∀ p, p ∈ q :: l → p := all_cons h hl
theorem dTq {p : Prop} [inst : Decidable p] (h : p) : decide p = true := decide_eq_true h
theorem dFq {p : Prop} [inst : Decidable p] (h : ¬ p) : decide p = false := decide_eq_false h
theorem dO {p : Prop} [inst : Decidable p] (h : p := by omega) : decide p = true := decide_eq_true h
theorem dN {p : Prop} [inst : Decidable p] (h : ¬ p := by omega) : decide p = false := decide_eq_false h
abbrev zSB (b n c : Nat) : Value := .slice (some ⟨b, 0, none⟩) n c
abbrev zSN : Value := .slice none 0 0
abbrev zPA (b : Nat) : Value := .pointer (some ⟨b, 0, none⟩)
abbrev zA2 (a b : Int) : Value := .agg #[.int .i64 a, .int .i64 b]
abbrev zA5 (a b c d e : Int) : Value := .agg #[.int .i64 a, .int .i64 b, .int .i64 c, .int .i64 d, .int .i64 e]
abbrev zA6 (a b c d e f : Int) : Value := .agg #[.int .i64 a, .int .i64 b, .int .i64 c, .int .i64 d, .int .i64 e, .int .i64 f]
abbrev zL6 (a b c d e f : Int) : List Value := [.int .i64 a, .int .i64 b, .int .i64 c, .int .i64 d, .int .i64 e, .int .i64 f]
theorem bF {b : Bool} (h : ¬ (b = true)) : b = false := Bool.eq_false_iff.2 h
end Go.Proofs.Ythjlpklloioknaa.Ex
section
set_option linter.unusedSectionVars false
set_option linter.unusedSimpArgs false
set_option linter.unusedVariables false
namespace Go.Proofs.Ythjlpklloioknaa.Ex
open Go Go.ChangeShapes Go.WideShapes Go.ChangeAt Go.RowKit
set_option linter.unusedVariables false
set_option linter.unusedSimpArgs false
theorem sz_mk (a : Array UInt8) : (ByteArray.mk a).size = a.size := rfl
structure OpF {α : Type} (P : Program) (t : TypeId) (f : α → List Value) (n : Nat) (good : α → Prop) : Prop where
  sz : P.cellsOf t = n
  op : ∀ {H : Type} {enc : TypeId × Value → H} {W : World} {held : Bool} {fuel : Nat} {cs : List Value} {x : DataW H × List MemPlace},
    DataW.trod enc P W 0 (fun _ => true) held fuel t cs = some x → (∀ n ∈ x.1.weights P t, n ≤ 140737488351232) → ∃ a, cs = f a ∧ (f a).length = n ∧ good a
section
variable {P : Program} {t e : TypeId} {α β : Type}
theorem OpF.mono {f : α → List Value} {n : Nat} {g g' : α → Prop} (h : OpF P t f n g) (hg : ∀ a, g a → g' a) : OpF P t f n g' := ⟨h.sz, fun h1 h2 => by
  obtain ⟨a, h3, h4, h5⟩ := h.op h1 h2
  exact ⟨a, h3, h4, hg a h5⟩⟩
theorem OpF.int {k : IntKind} (hc : P.cellsOf t = 1) (hu : P.underlying t = some (.int k)) : OpF P t (fun a => [.int k a]) 1 (fun a => (Lit.int k a).wf = true) := ⟨hc, fun h _ => by
  obtain ⟨n, rfl, _, hw⟩ := DataW.trod_int hu h
  exact ⟨n, rfl, rfl, hw⟩⟩
theorem OpF.bool (hc : P.cellsOf t = 1) (hu : P.underlying t = some .bool) : OpF P t (fun a => [.bool a]) 1 (fun _ => True) := ⟨hc, fun h _ => by
  obtain ⟨n, rfl, _⟩ := DataW.trod_bool hu h
  exact ⟨n, rfl, rfl, trivial⟩⟩
theorem OpF.string (hc : P.cellsOf t = 1) (hu : P.underlying t = some .string) : OpF P t (fun a => [.string a]) 1 (fun s => s.size ≤ 140737488351232) := ⟨hc, fun h hw => by
  obtain ⟨s, rfl, rfl, _⟩ := DataW.trod_string hu h
  have := hw s.data.toList.length (by simp [DataW.weights])
  exact ⟨s, rfl, rfl, by simpa using this⟩⟩
/-- The fields of a struct, from one on. -/
structure OpFs {α : Type} (P : Program) (fs : List Field) (off : Nat) (f : α → List Value) (n : Nat) (good : α → Prop) : Prop where
  op : ∀ {H : Type} {enc : TypeId × Value → H} {W : World} {held : Bool} {m : Nat} {cs : List Value} {xs : List (DataW H × List MemPlace)},
    cs.length = off + n → xs.length = fs.length → (∀ (i : Nat) g, fs[i]? = some g → DataW.trod enc P W 0 (fun _ => true) held m g.type ((cs.drop g.offset).take (P.cellsOf g.type)) = xs[i]?) →
    (∀ m ∈ DataW.weightsEach P (fs.map (·.type)) (xs.map (·.1)), m ≤ 140737488351232) → ∃ a, cs.drop off = f a ∧ (f a).length = n ∧ good a
theorem OpFs.one {f : α → List Value} {n : Nat} {good : α → Prop} {g : Field} {off : Nat} (ho : g.offset = off) (h : OpF P g.type f n good) : OpFs P [g] off f n good := ⟨fun {H enc W held m cs xs} hl hx ht hw => by
  match xs, hx with
  | [x0], _ =>
    have h0 := ht 0 g rfl
    rw [ho, h.sz, List.take_of_length_le (by simp; omega)] at h0
    exact h.op h0 (fun m hm => hw m (by simpa [DataW.weightsEach] using hm))⟩
theorem OpFs.cons {f : α → List Value} {f2 : β → List Value} {n n2 : Nat} {g : α → Prop} {g2 : β → Prop} {fd : Field} {fs : List Field} {off : Nat} (ho : fd.offset = off) (h : OpF P fd.type f n g) (hr : OpFs P fs (off + n) f2 n2 g2) :
    OpFs P (fd :: fs) off (fun (a : α × β) => f a.1 ++ f2 a.2) (n + n2) (fun a => g a.1 ∧ g2 a.2) := ⟨fun {H enc W held m cs xs} hl hx ht hw => by
  match xs, hx with
  | x0 :: xs, hx =>
    have h0 := ht 0 fd rfl
    rw [ho, h.sz] at h0
    obtain ⟨a, hK, hla, hg⟩ := h.op h0 (fun m hm => hw m (by simp only [List.map_cons, DataW.weightsEach, List.mem_append]; exact .inl hm))
    obtain ⟨b, hK2, hlb, hg2⟩ := hr.op (W := W) (cs := cs) (xs := xs) (by omega) (by simpa using hx) (fun i f2 hf => ht (i + 1) f2 (by simpa using hf)) (fun m hm => hw m (by simp only [List.map_cons, DataW.weightsEach, List.mem_append]; exact .inr hm))
    refine ⟨(a, b), ?_, by simp [hla, hlb], hg, hg2⟩
    rw [← hK, ← hK2, ← List.drop_drop, List.take_append_drop]⟩
theorem OpF.struct {f : α → List Value} {n : Nat} {good : α → Prop} {fs : Array Field} (hu : P.underlying t = some (.struct fs)) (hc : P.cellsOf t = n) (h : OpFs P fs.toList 0 f n good) : OpF P t f n good := ⟨hc, fun {H enc W held fuel cs x} ht hw => by
  obtain ⟨xs, m, _, rfl, hl, hlen, hf⟩ := DataW.trod_struct hu ht
  have := h.op (W := W) (cs := cs) (xs := xs) (by rw [hl, hc]; simp) (by simpa using hlen) (fun i f hf' => hf i f (by simpa using hf')) (fun m hm => hw m (by simpa [DataW.weights, hu] using hm))
  simpa using this⟩
theorem weights_all {H : Type} {ds : List (DataW H)} {d : DataW H} (h : d ∈ ds) : ∀ n ∈ d.weights P e, n ∈ DataW.weightsAll P e ds := by
  induction ds with
  | nil => cases h
  | cons d0 ds ih =>
    intro n hn
    simp only [DataW.weightsAll, List.mem_append]
    rcases List.mem_cons.1 h with rfl | h
    · exact .inl hn
    · exact .inr (ih h n hn)
theorem rows_of {f : α → List Value} {n : Nat} {good : α → Prop} : ∀ (k : Nat) (get : Nat → List Value), (∀ i, i < k → ∃ a, get i = f a ∧ (f a).length = n ∧ good a) →
    ∃ l : List α, l.length = k ∧ (∀ i, i < k → ∃ a, l[i]? = some a ∧ get i = f a ∧ (f a).length = n) ∧ ∀ a ∈ l, good a
  | 0, get, _ => ⟨[], rfl, fun i hi => by omega, fun a ha => by cases ha⟩
  | k + 1, get, h => by
    obtain ⟨a, h1, h2, h3⟩ := h 0 (by omega)
    obtain ⟨l, k1, k2, k3⟩ := rows_of k (fun i => get (i + 1)) (fun i hi => h (i + 1) (by omega))
    refine ⟨a :: l, by simp [k1], fun i hi => ?_, fun b hb => ?_⟩
    · cases i with
      | zero => exact ⟨a, rfl, h1, h2⟩
      | succ i => simpa using k2 i (by omega)
    · rcases List.mem_cons.1 hb with rfl | hb
      · exact h3
      · exact k3 b hb
theorem flat_len {f : α → List Value} {n : Nat} : ∀ {l : List α}, (∀ a ∈ l, (f a).length = n) → (l.flatMap f).length = l.length * n
  | [], _ => by simp
  | a :: l, h => by
    rw [List.flatMap_cons, List.length_append, h a List.mem_cons_self, flat_len (fun b hb => h b (List.mem_cons_of_mem _ hb)), List.length_cons, Nat.succ_mul]
    omega
theorem flat_get {f : α → List Value} {n : Nat} : ∀ {l : List α}, (∀ a ∈ l, (f a).length = n) → ∀ (i j : Nat) (a : α), l[i]? = some a → j < n → (l.flatMap f)[i * n + j]? = (f a)[j]?
  | [], _, i, j, a, h, _ => by simp at h
  | b :: l, hl, i, j, a, h, hj => by
    have hb := hl b List.mem_cons_self
    rw [List.flatMap_cons]
    cases i with
    | zero =>
      simp only [List.getElem?_cons_zero, Option.some.injEq] at h
      subst h
      rw [Nat.zero_mul, Nat.zero_add, List.getElem?_append_left (by omega)]
    | succ i =>
      have := flat_get (l := l) (fun c hc => hl c (List.mem_cons_of_mem _ hc)) i j a (by simpa using h) hj
      rw [List.getElem?_append_right (by rw [hb, Nat.succ_mul]; omega), ← this]
      congr 1
      rw [hb, Nat.succ_mul]
      omega
theorem OpF.array {f : α → List Value} {n : Nat} {good : α → Prop} (k : Nat) (hu : P.underlying t = some (.array k e)) (hc : P.cellsOf t = k * n) (h : OpF P e f n good) :
    OpF P t (fun l : List α => l.flatMap f) (k * n) (fun l => l.length = k ∧ ∀ a ∈ l, good a) := ⟨hc, fun {H enc W held fuel cs x} ht hw => by
  obtain ⟨xs, m, _, rfl, hl, hlen, hf⟩ := DataW.trod_array hu ht
  rw [hc] at hl
  obtain ⟨l, k1, k2, k3⟩ := rows_of (f := f) (n := n) (good := good) k (fun i => (cs.drop (i * n)).take n) (fun i hi => by
    have h1 := hf i hi
    rw [h.sz] at h1
    obtain ⟨x, hx⟩ : ∃ x, xs[i]? = some x := ⟨xs[i], by simp [hlen, hi]⟩
    rw [hx] at h1
    exact h.op h1 (fun q hq => hw q (by
      simp only [DataW.weights, hu]
      exact weights_all (List.mem_map.2 ⟨x, List.mem_of_getElem? hx, rfl⟩) q hq)))
  have hfl : ∀ a ∈ l, (f a).length = n := fun a ha => by
    obtain ⟨i, hi, rfl⟩ := List.getElem_of_mem ha
    obtain ⟨b, q1, _, q3⟩ := k2 i (by omega)
    rw [List.getElem?_eq_getElem hi] at q1
    cases q1
    exact q3
  have hll : (l.flatMap f).length = k * n := by rw [flat_len hfl, k1]
  refine ⟨l, ?_, hll, k1, k3⟩
  apply List.ext_getElem?
  intro i
  rcases Nat.lt_or_ge i (k * n) with hi | hi
  · have hn : 0 < n := by
      rcases Nat.eq_zero_or_pos n with h0 | h0
      · rw [h0, Nat.mul_zero] at hi; omega
      · exact h0
    have hq : i / n < k := Nat.div_lt_of_lt_mul (by rw [Nat.mul_comm]; exact hi)
    obtain ⟨a, q1, q2, q3⟩ := k2 (i / n) hq
    have hr := Nat.mod_lt i hn
    have e1 : i = i / n * n + i % n := by rw [Nat.mul_comm]; exact (Nat.div_add_mod i n).symm
    have := flat_get hfl (i / n) (i % n) a q1 hr
    rw [← e1] at this
    rw [this, ← q2, List.getElem?_take, if_pos hr, List.getElem?_drop, ← e1]
  · rw [List.getElem?_eq_none (by omega), List.getElem?_eq_none (by omega)]⟩
theorem cells_of {W : World} {a : Addr} {n : Nat} {cs : List Value} (h : W.cells? 0 a n = some cs) : cs.length = n ∧ ∀ (i : Nat) u, cs[i]? = some u → W.cell? (a.add i) = some u := by
  obtain ⟨_, hl, hc⟩ := World.cells?_some h
  refine ⟨hl, fun i u hu => ?_⟩
  rw [hc i (by have := (List.getElem?_eq_some_iff.1 hu).1; omega)]
  exact hu
theorem weights_arg {H : Type} {ts : List TypeId} {ds : List (DataW H)} (h : (DataW.weightsEach P ts ds).all (· ≤ reachBytes) = true) (j : Nat) {t : TypeId} {d : DataW H} (ht : ts[j]? = some t) (hd : ds[j]? = some d) : ∀ n ∈ d.weights P t, n ≤ 140737488351232 := fun n hn => by
  have := List.all_eq_true.1 h n (DataW.weights_mem_each ht hd n hn)
  exact of_decide_eq_true this
theorem open_row {f : α → List Value} {n : Nat} {good : α → Prop} (B : Nat) (hu : P.underlying t = some (.slice e)) (hB : P.bytesOf e = B) (hn : 0 < n) (hs : (sz P e).getD 0 = n) (hfl : flatT P 6 e = true ∨ True) (h : OpF P e f n good) (hfa : ∀ a, (f a).all flat1 = true)
    {H : Type} {enc : TypeId × Value → H} {W : World} {held : Bool} {fuel : Nat} {v : Value} {x : DataW H × List MemPlace} (ht : DataW.trod enc P W 0 (fun _ => true) held fuel t [v] = some x) (hw : ∀ n ∈ x.1.weights P t, n ≤ 140737488351232) :
    v = .slice none 0 0 ∨ (∃ ν, VR ν (.slice (some ⟨0, 0, none⟩) 0 0) v ∧ Rep P ν [.dead] W) ∨
    ∃ (l : List α) (ν : Nu), 0 < l.length ∧ l.length * B ≤ 140737488351232 ∧ (∀ a ∈ l, good a ∧ (f a).length = n) ∧ VR ν (.slice (some ⟨0, 0, none⟩) l.length l.length) v ∧ Rep P ν [.ro e (l.flatMap f)] W := by
  rcases Go.Deep.open_slice hu ht with ⟨h0, _⟩ | ⟨a, len, cap, m, q, D, Pl, h0, _, hlc, hcm, hm, rfl, hel⟩
  · cases h0; exact .inl rfl
  · cases h0
    right
    simp only [if_true] at hm
    subst hm
    obtain ⟨l, k1, k2, k3⟩ := rows_of (f := f) (n := n) (good := good) m (fun i => ((W.cells? 0 (a.add (i * n)) n).getD [])) (fun i hi => by
      obtain ⟨cs', h1, h2⟩ := hel i hi
      rw [h.sz] at h1
      rw [h1]
      exact h.op h2 (fun p hp => hw p (by
        simp only [DataW.weights, hu, List.mem_cons, List.mem_append]
        rcases Nat.lt_or_ge i len with hi2 | hi2
        · exact .inr (.inl (weights_all (List.mem_map.2 ⟨i, by simpa using hi2, rfl⟩) p hp))
        · exact .inr (.inr (weights_all (List.mem_map.2 ⟨i - len, by simp; omega, by simp only; rw [show len + (i - len) = i by omega]⟩) p hp)))))
    have hbytes := hw ((((List.range len).map D).length + ((List.range (m - len)).map fun j => D (len + j)).length) * P.bytesOf e) (by simp [DataW.weights, hu])
    rw [hB] at hbytes
    simp only [List.length_map, List.length_range] at hbytes
    have hfl : ∀ a ∈ l, (f a).length = n := fun a ha => by
      obtain ⟨i, hi, rfl⟩ := List.getElem_of_mem ha
      obtain ⟨b, q1, _, q3⟩ := k2 i (by omega)
      rw [List.getElem?_eq_getElem hi] at q1
      cases q1
      exact q3
    have hcell : ∀ (i j : Nat) (b : α) u, l[i]? = some b → i < m → (f b)[j]? = some u → W.cell? ((a.add (i * n)).add j) = some u := fun i j b u hb hi hj => by
      obtain ⟨cs', h1, _⟩ := hel i hi
      obtain ⟨c, q1, q2, _⟩ := k2 i hi
      rw [hb] at q1
      cases q1
      rw [h.sz] at h1
      rw [h1] at q2
      obtain ⟨_, hc⟩ := cells_of h1
      exact hc j u (by
        have : cs' = f b := q2
        rw [this]; exact hj)
    have hsp : 0 < m → a.spot = none ∧ a.block < W.heap.size := fun hm => by
      obtain ⟨c, q1, _, q3⟩ := k2 0 hm
      have := hcell 0 0 c ((f c)[0]'(by omega)) q1 hm (by simp)
      rw [Nat.zero_mul] at this
      have this : W.cell? a = some _ := this
      unfold World.cell? at this
      split at this
      · rename_i _ _ _ hh
        refine ⟨?_, (Array.getElem?_eq_some_iff.1 hh).1⟩
        split at this
        · cases this
        · rename_i hs; simpa using hs
      · cases this
    let N : Nm := ⟨a.block, a.off, m * n, n⟩
    let ν : Nu := fun id => if id = 0 then some N else none
    have hνs : 0 < m → ∃ M, ν 0 = some M ∧ (none : Option Nat) = none ∧ a = M.at 0 ∧ 0 + m * M.u = M.S := fun hm =>
      ⟨N, rfl, rfl, by
        have := (hsp hm).1
        show a = ⟨a.block, a.off + 0, none⟩
        rw [Nat.add_zero, ← this], by show 0 + m * n = m * n; omega⟩
    rcases Nat.eq_zero_or_pos len with hz | hp
    · subst hz
      refine .inl ⟨ν, ⟨a, m, rfl, Nat.zero_le _, hlc, fun hm => hνs hm⟩, fun id hid => ?_, fun id => ?_, fun i j M K hij hi => ?_⟩
      · show (if id = 0 then _ else _) = none
        rw [if_neg (by simp at hid; omega)]
      · cases id <;> exact trivial
      · cases i <;> cases hi
    · refine .inr ⟨l.take len, ν, by simp [k1]; omega, ?_, fun b hb => ⟨k3 b (List.mem_of_mem_take hb), hfl b (List.mem_of_mem_take hb)⟩, ?_, fun id hid => ?_, fun id => ?_, fun i j M K hij hi => ?_⟩
      · rw [List.length_take, k1]
        refine Nat.le_trans (Nat.mul_le_mul_right _ ?_) hbytes
        omega
      · have e : (l.take len).length = len := by rw [List.length_take, k1]; omega
        rw [e]
        exact ⟨a, m, rfl, hlc, hlc, fun hm => hνs hm⟩
      · show (if id = 0 then _ else _) = none
        rw [if_neg (by simp at hid; omega)]
      · cases id with
        | succ id => exact trivial
        | zero =>
          have hall : ((l.take len).flatMap f).all flat1 = true := by
            rw [List.all_eq_true]
            intro u hu
            obtain ⟨b, _, hb⟩ := List.mem_flatMap.1 hu
            exact List.all_eq_true.1 (hfa b) u hb
          refine ⟨N, rfl, by rw [hs], (hsp (by omega)).2, (l.take len).flatMap f, ?_, fun i u hu => ?_⟩
          · have : L2 (VR1 ν) ((l.take len).flatMap f) ((l.take len).flatMap f) := (flat_L2 hall).2 rfl
            exact CR.of this (by rw [hall]; simp)
          · have hfl' : ∀ b ∈ l.take len, (f b).length = n := fun b hb => hfl b (List.mem_of_mem_take hb)
            have hi := (List.getElem?_eq_some_iff.1 hu).1
            rw [flat_len hfl', List.length_take, k1] at hi
            have hmin : min len m = len := by omega
            rw [hmin] at hi
            have hq : i / n < len := Nat.div_lt_of_lt_mul (by rw [Nat.mul_comm]; exact hi)
            have hr := Nat.mod_lt i hn
            have e1 : i = i / n * n + i % n := by rw [Nat.mul_comm]; exact (Nat.div_add_mod i n).symm
            obtain ⟨b, q1, _, q3⟩ := k2 (i / n) (by omega)
            have q1' : (l.take len)[i / n]? = some b := by rw [List.getElem?_take, if_pos hq]; exact q1
            have := flat_get hfl' (i / n) (i % n) b q1' hr
            rw [← e1, hu] at this
            have hc := hcell (i / n) (i % n) b u q1 (by omega) this.symm
            have hsn := (hsp (by omega)).1
            have : (a.add (i / n * n)).add (i % n) = N.at i := by
              show _ = (⟨a.block, a.off + i, none⟩ : Addr)
              unfold Addr.add
              have e2 : a = ⟨a.block, a.off, none⟩ := by rw [← hsn]
              by_cases c1 : i / n * n = 0
              · rw [if_pos c1]
                by_cases c2 : i % n = 0
                · rw [if_pos c2]
                  have : i = 0 := by omega
                  subst this
                  exact e2
                · rw [if_neg c2]
                  have : i % n = i := by omega
                  rw [this]
              · rw [if_neg c1]
                by_cases c2 : i % n = 0
                · rw [if_pos c2]
                  have : i / n * n = i := by omega
                  rw [this]
                · rw [if_neg c2]
                  simp only [Addr.mk.injEq, and_true, true_and]
                  omega
            rw [this] at hc
            exact hc
      · cases i <;> cases hi
theorem law_calls {f : FuncId} {args args' : List Value} {hp hp' : Hp} {ν : Nu} {W : World} (h : CallSpec P f args hp ⟨.bool true, hp', []⟩) (ha : L2 (VR ν) args args') (hr : Rep P ν hp W) :
    Calls P f args'.toArray W fun e W' => e = .returned (.bool true) ∧ Below W.heap.size W W' :=
  (h ν W args' ha hr).mono fun e W' ⟨v', ν', he, hv, hi⟩ => by
    have : v' = .bool true := hv
    subst this
    exact ⟨he, hi.os, hi.tape, hi.output, hi.size, fun k hk => hi.frame k hk fun id N _ hid => by cases hid⟩
theorem row_calls {f : FuncId} {A : Array Value} {W : World} (h : ∃ (args' : List Value) (hp hp' : Hp) (ν : Nu) (args0 : List Value), A = args'.toArray ∧ L2 (VR ν) args0 args' ∧ Rep P ν hp W ∧ CallSpec P f args0 hp ⟨.bool true, hp', []⟩) :
    Calls P f A W fun e W' => e = .returned (.bool true) ∧ Below W.heap.size W W' := by
  obtain ⟨args', hp, hp', ν, args0, rfl, ha, hr, hs⟩ := h
  exact law_calls hs ha hr
theorem rep_none (W : World) : Rep P (fun _ => none) [] W := ⟨fun _ _ => rfl, fun id => by cases id <;> trivial, fun i j N K _ hi => by cases i <;> cases hi⟩
end
end Go.Proofs.Ythjlpklloioknaa.Ex
end
section
set_option linter.unusedSectionVars false
set_option linter.unusedSimpArgs false
set_option linter.unusedVariables false
namespace Go.Proofs.Ythjlpklloioknaa.Ex
open Go
set_option linter.unusedVariables false
set_option linter.unusedSimpArgs false
section
variable {P : Program}
theorem put_size {a : Act} {d : Option Tmp} {v : Value} : (a.put d v).tmps.size = a.tmps.size := by cases d <;> simp [Act.put]
def regsIn : Code → List Code
  | .seq a b => regsIn a ++ regsIn b
  | .cond _ a b => regsIn a ++ regsIn b
  | .block _ a => regsIn a
  | .loop a => regsIn a
  | .region id ops d => [.region id ops d]
  | _ => []
def regAt (P : Program) (f : FuncId) (i : Nat) : Code := (((P.funcs[f]?).bind (·.body)).map fun c => (regsIn c).getD i .skip).getD .skip
def opsOf : Code → Array Oper
  | .region _ ops _ => ops
  | _ => #[]
def opOf (c : Code) (i : Nat) : Oper := (opsOf c).getD i default
end
end Go.Proofs.Ythjlpklloioknaa.Ex
end
section
set_option linter.unusedSectionVars false
set_option linter.unusedSimpArgs false
set_option linter.unusedVariables false
namespace Go.Proofs.Ythjlpklloioknaa.Ex
open Go
set_option linter.unusedVariables false
set_option linter.unusedSimpArgs false
section
variable {P : Program}
theorem sound_exec (hN : Named P) (hC : Calm P) (hm : P.follows .mixedOrders = true) (n : Nat) : Sound P (callA P (toldA P (exec P n))) := by
  have told : ∀ g args hp, Sat (toldA P (exec P n) g args hp) (CallSpec P g args hp) := by
    intro g args hp o r he hg
    unfold toldA at he
    split at he
    · cases he
      exact hg.2 _ (by simp)
    · cases he
    · exact exec_ok hN hC hm n g args hp _ _ he hg
    · exact exec_ok hN hC hm n g args hp _ _ he hg
  exact fun F g args hp hF => call_sat (fun args hp => told g args hp) hF
end
section
variable {P : Program}
theorem Inv.loads {w0 w w' : World} {ν0 ν ν' : Nu} {m : Nat} {hp : Hp} {wr : List Nat} (hi : Inv P w0 ν0 m ν hp wr w) (h : Inv P w ν hp.length ν' hp [] w') : Inv P w0 ν0 m ν' hp wr w' :=
  ⟨h.rep, hi.len, fun id h1 => (h.same id (Nat.lt_of_lt_of_le h1 hi.len)).trans (hi.same id h1), h.os.trans hi.os, h.tape.trans hi.tape, h.output.trans hi.output, Nat.le_trans hi.size h.size,
    fun g hg hn => (h.frame g (Nat.lt_of_lt_of_le hg hi.size) (fun id N _ hmem => by cases hmem)).trans (hi.frame g hg hn), fun id N hm hl hN => by
      rcases Nat.lt_or_ge id hp.length with h1 | h1
      · exact hi.fresh id N hm hl ((h.same id h1) ▸ hN)
      · rw [List.getD_eq_getElem?_getD, List.getElem?_eq_none h1] at hl
        cases hl⟩
theorem Inv.start {w : World} {ν : Nu} {hp : Hp} (h : Rep P ν hp w) : Inv P w ν hp.length ν hp [] w :=
  ⟨h, Nat.le_refl _, fun _ _ => rfl, rfl, rfl, rfl, Nat.le_refl _, fun _ _ _ => rfl, fun id N hid _ hN => by rw [h.dom id hid] at hN; cases hN⟩
theorem Inv.grown {w0 w w2 : World} {ν0 ν : Nu} {m : Nat} {hp : Hp} {wr : List Nat} (hi : Inv P w0 ν0 m ν hp wr w) (hB : RowKit.Below w.heap.size w w2) : Inv P w0 ν0 m ν hp wr w2 :=
  ⟨⟨hi.rep.dom, fun id => (hi.rep.blk id).le (Le.refl _) (fun N hN hl => hB.block N.g ((hi.rep.blk id).lt hl hN)) hB.size, hi.rep.sep⟩, hi.len, hi.same, hB.os.trans hi.os, hB.tape.trans hi.tape, hB.output.trans hi.output, Nat.le_trans hi.size hB.size,
    fun g hg hn => (hB.block g (Nat.lt_of_lt_of_le hg hi.size)).trans (hi.frame g hg hn), hi.fresh⟩
theorem wpl_step {all : Array Oper} {Q : Exit → Act → World → Prop} {o : Oper} {os : List Oper} {a : Act} {w w' : World} {v : Value} (hg : o.guard = none) (hrun : (execOp a.eval o).run P w = .ok (.value v) w')
    (h : wpList P all Q os (a.put o.dst v) w') : wpList P all Q (o :: os) a w := by
  unfold wpList
  rw [if_pos (by simp [Region.wanted, hg])]
  refine .inl ?_
  unfold Oper.wp
  rw [hrun, Oper.upon_value]
  exact h
/-- What is kept while the map is built. -/
structure StM (ν : Nu) (fr : Fr) (p : Value) (r : Nat) (a : Act) : Prop where
  size : a.tmps.size = 53
  e0 : a.tmps[0]? = some p
  e34 : a.tmps[34]? = some (.map (some r))
  fr : FrRel ν fr a.tmps
theorem StM.put {ν : Nu} {fr : Fr} {p : Value} {r : Nat} {a : Act} (h : StM ν fr p r a) {d : Nat} (hd : 34 < d) (hn : fr.get d = none) (v : Value) : StM ν fr p r (a.put (some d) v) :=
  ⟨by rw [put_size]; exact h.size, by simp only [Act.put]; rw [Array.getElem?_setIfInBounds_ne (by omega)]; exact h.e0, by simp only [Act.put]; rw [Array.getElem?_setIfInBounds_ne (by omega)]; exact h.e34,
    by rw [put_size]; exact h.fr.1, fun t u hu => by
      obtain ⟨v', h1, h2⟩ := h.fr.2 t u hu
      have hne : d ≠ t := fun e => by rw [← e, hn] at hu; cases hu
      exact ⟨v', by simp only [Act.put]; rw [Array.getElem?_setIfInBounds_ne hne]; exact h1, h2⟩⟩
end
section
variable {P : Program} {w : World}
def putH (w : World) (r : Nat) (o : Obj) : World := { w with heap := w.heap.setIfInBounds r o }
theorem run_put_new {t k e : TypeId} {r : Nat} {es : Array MapEntry} {clock : Nat} (ht : P.underlying t = some (.map k e)) (hk : P.underlying k = some (.int .u8)) (hb : w.heap[r]? = some (.map es clock)) (x : Int) (v : Value)
    (hf : Instr.findNow (.int .u8) (.int .u8 x) es.toList 0 = some none) : (Instr.mapUpdate t (.map (some r)) (.int .u8 x) v).run P w = .ok () (putH w r (.map (es.push ⟨.int .u8 x, v, clock⟩) (clock + 1))) := by
  simp [Instr.mapUpdate, run_underlying ht, MapKept.run_getObj_map hb, MapKept.run_checkKey hk (show MapKept.IsKey (.int .u8) (.int .u8 x) by simp [MapKept.IsKey]) false 9999, MapKept.run_findKey hk hf, MapKept.run_setObj_map _ hb, Result.andThen, putH]
theorem run_look {t k e : TypeId} {r i : Nat} {es : Array MapEntry} {clock : Nat} {v : Value} (ht : P.underlying t = some (.map k e)) (hk : P.underlying k = some (.int .u8)) (hb : w.heap[r]? = some (.map es clock)) (x : Int)
    (hf : Instr.findNow (.int .u8) (.int .u8 x) es.toList 0 = some (some (i, v))) : (Instr.lookup t (.map (some r)) (.int .u8 x) false).run P w = .ok v w := by
  simp [Instr.lookup, run_underlying ht, MapKept.run_getObj_map hb, MapKept.run_checkKey hk (show MapKept.IsKey (.int .u8) (.int .u8 x) by simp [MapKept.IsKey]), MapKept.run_findKey hk hf, Result.andThen]
theorem putH_at {r : Nat} {o : Obj} (h : r < w.heap.size) : (putH w r o).heap[r]? = some o := by simp [putH, h]
theorem putH_size {r : Nat} {o : Obj} : (putH w r o).heap.size = w.heap.size := by simp [putH]
theorem below_putH {B r : Nat} {w0 : World} {o : Obj} (h : RowKit.Below B w0 w) (hr : B ≤ r) : RowKit.Below B w0 (putH w r o) :=
  h.trans ⟨rfl, rfl, rfl, by rw [putH_size]; exact Nat.le_refl _, fun k hk => by simp only [Ex.putH]; rw [Array.getElem?_setIfInBounds_ne (by omega)]⟩
end
noncomputable def rg6 : Code := regAt Try.prog 18 6
theorem rg6_eq : rg6 = .region 6 (opsOf rg6) false := by kernel_rfl
theorem rg6_list : (opsOf rg6).toList = [opOf rg6 0, opOf rg6 1, opOf rg6 2, opOf rg6 3, opOf rg6 4, opOf rg6 5, opOf rg6 6, opOf rg6 7, opOf rg6 8, opOf rg6 9, opOf rg6 10, opOf rg6 11, opOf rg6 12, opOf rg6 13, opOf rg6 14] := by kernel_rfl
def meth (f : FuncId) (p : Value) : Value := .func (.func f) #[p] #[]
def ents (p : Value) : Array MapEntry := ((#[].push ⟨.int .u8 7, meth 40 p, 0⟩).push ⟨.int .u8 9, meth 41 p, 1⟩).push ⟨.int .u8 11, meth 42 p, 2⟩
theorem und78 : Try.prog.underlying 78 = some (.map 35 77) := by kernel_rfl
theorem und35 : Try.prog.underlying 35 = some (.int .u8) := by kernel_rfl
theorem meth_step {all : Array Oper} {Q : Exit → Act → World → Prop} {oa ob oc : Oper} {os : List Oper} {a : Act} {w : World} {ν : Nu} {fr : Fr} {p : Value} {r dA dB : Nat} {f : FuncId} {x : Int} {es : Array MapEntry} {clock : Nat}
    (h : StM ν fr p r a) (hA : 34 < dA) (hB : 34 < dB) (hA2 : dA < 53) (hB2 : dB < 53) (nA : fr.get dA = none) (nB : fr.get dB = none) (ga : oa.guard = none) (gb : ob.guard = none) (gc : oc.guard = none)
    (o1 : oa.op = .move (.tmp 0)) (d1 : oa.dst = some dA) (o2 : ob.op = .makeFunc (.func f) #[.tmp dA] #[]) (d2 : ob.dst = some dB) (o3 : oc.op = .insert 78 (.tmp 34) (.const (.int .u8 x)) (.tmp dB)) (d3 : oc.dst = none)
    (hb : w.heap[r]? = some (.map es clock)) (hf : Instr.findNow (.int .u8) (.int .u8 x) es.toList 0 = some none)
    (k : ∀ a', StM ν fr p r a' → a'.defers = a.defers → wpList Try.prog all Q os a' (putH w r (.map (es.push ⟨.int .u8 x, meth f p, clock⟩) (clock + 1)))) : wpList Try.prog all Q (oa :: ob :: oc :: os) a w := by
  refine wpl_step (v := p) (w' := w) ga (by simp [execOp, o1, Act.eval, h.e0]) ?_
  rw [d1]
  have e1 : (a.put (some dA) p).eval (.tmp dA) = p := by simp [Act.eval, Act.put, h.size, hA2]
  have S1 := h.put hA nA p
  have D1 : (a.put (some dA) p).defers = a.defers := put_defers
  generalize a.put (some dA) p = a1 at e1 S1 D1
  refine wpl_step (v := meth f p) (w' := w) gb (by simp [execOp, o2, e1, Instr.makeFunc, meth]) ?_
  rw [d2]
  have e2 : (a1.put (some dB) (meth f p)).eval (.tmp dB) = meth f p := by simp [Act.eval, Act.put, S1.size, hB2]
  have S2 := S1.put hB nB (meth f p)
  have D2 : (a1.put (some dB) (meth f p)).defers = a1.defers := put_defers
  generalize a1.put (some dB) (meth f p) = a2 at e2 S2 D2
  have e34 : a2.eval (.tmp 34) = .map (some r) := by simp [Act.eval, S2.e34]
  have hrun := run_put_new und78 und35 hb x (meth f p) hf
  have hskip : (execOp a2.eval oc).run Try.prog w = .ok .skip (putH w r (.map (es.push ⟨.int .u8 x, meth f p, clock⟩) (clock + 1))) := by
    have ec : a2.eval (.const (.int .u8 x)) = .int .u8 x := rfl
    simp [execOp, o3, e34, e2, ec, hrun, Result.andThen]
  unfold wpList
  rw [if_pos (by simp [Region.wanted, gc])]
  refine .inl ?_
  unfold Oper.wp
  rw [hskip, Oper.upon_skip, d3]
  exact k _ S2 (D2.trans D1)
theorem mapRg {m : Nat} {fr fr' : Fr} {hp : Hp} {pa : Value} {kind : Int} {f : FuncId} {i : Nat} (hn : fr.n = 53) (hnone : ∀ d, 34 ≤ d → d ≤ 41 → fr.get d = none) (g0 : fr.get 0 = some pa) (hpa : ∀ ν v, VR ν pa v → VR0 ν pa v)
    {u42 : Value} (h11 : OpOk Try.prog (List.range hp.length ++ footA Try.prog fr hp (opOf rg6 11)) fr hp (opOf rg6 11) ⟨u42, hp, []⟩)
    (h12 : OpOk Try.prog (List.range hp.length ++ footA Try.prog (putT fr (some 42) u42) hp (opOf rg6 12)) (putT fr (some 42) u42) hp (opOf rg6 12) ⟨.int .u8 kind, hp, []⟩)
    (hfr' : fr' = putT (putT fr (some 42) u42) (some 43) (.int .u8 kind))
    (hf : ∀ p, Instr.findNow (.int .u8) (.int .u8 kind) (ents p).toList 0 = some (some (i, meth f p))) :
    CodeSpec Try.prog m rg6 fr hp ⟨.normal, putT (putT fr' (some 44) (meth f pa)) (some 9) (meth f pa), hp, []⟩ := by
  intro w0 ν0 ν wx a w Q hi hfr hQ
  rw [rg6_eq]
  refine wp_region_list ?_
  rw [rg6_list]
  obtain ⟨p, x0, r0⟩ := hfr.2 0 _ g0
  have hsz : a.tmps.size = 53 := by rw [← hfr.1, hn]
  have o0 : (opOf rg6 0).op = .makeMap 78 none := by kernel_rfl
  have oa : (opOf rg6 10).op = .move (.tmp 34) := by kernel_rfl
  have od : (opOf rg6 13).op = .lookup 78 (.tmp 41) (.tmp 43) false := by kernel_rfl
  have oe : (opOf rg6 14).op = .assign (.tmp 44) := by kernel_rfl
  have d0 : (opOf rg6 0).dst = some 34 := by kernel_rfl
  have da : (opOf rg6 10).dst = some 41 := by kernel_rfl
  have dd : (opOf rg6 13).dst = some 44 := by kernel_rfl
  have de : (opOf rg6 14).dst = some 9 := by kernel_rfl
  -- the map
  refine wpl_step (v := .map (some w.heap.size)) (w' := w.alloc (.map #[] 0)) (by kernel_rfl) (by simp [execOp, o0, Instr.makeMap]) ?_
  rw [d0]
  have S0 : StM ν fr p w.heap.size (a.put (some 34) (.map (some w.heap.size))) :=
    ⟨by rw [put_size, hsz], by simp only [Act.put]; rw [Array.getElem?_setIfInBounds_ne (by omega)]; exact x0, by simp [Act.put, hsz], by rw [put_size]; exact hfr.1, fun t u hu => by
      obtain ⟨v', h1, h2⟩ := hfr.2 t u hu
      have hne : 34 ≠ t := fun e => by rw [← e, hnone 34 (by omega) (by omega)] at hu; cases hu
      exact ⟨v', by simp only [Act.put]; rw [Array.getElem?_setIfInBounds_ne hne]; exact h1, h2⟩⟩
  have hD0 : (a.put (some 34) (.map (some w.heap.size))).defers = a.defers := put_defers
  generalize a.put (some 34) (.map (some w.heap.size)) = a0 at S0 hD0
  have hb0 : (w.alloc (.map #[] 0)).heap[w.heap.size]? = some (.map #[] 0) := (MapKept.heap_alloc w _).1
  have B0 : RowKit.Below w.heap.size w (w.alloc (.map #[] 0)) := (RowKit.Below.refl _ _).alloc (Nat.le_refl _) _
  have z0 : w.heap.size < (w.alloc (.map #[] 0)).heap.size := (Array.getElem?_eq_some_iff.1 hb0).1
  generalize w.alloc (.map #[] 0) = w1 at hb0 B0 z0
  -- three methods
  refine meth_step (dA := 35) (dB := 36) (f := 40) (x := 7) S0 (by decide) (by decide) (by decide) (by decide) (hnone 35 (by decide) (by decide)) (hnone 36 (by decide) (by decide)) (by kernel_rfl) (by kernel_rfl) (by kernel_rfl) (by kernel_rfl) (by kernel_rfl) (by kernel_rfl) (by kernel_rfl) (by kernel_rfl) (by kernel_rfl) hb0 rfl fun a1 S1 D1 => ?_
  have hb1 := putH_at (o := .map (#[].push ⟨.int .u8 7, meth 40 p, 0⟩) (0 + 1)) z0
  have B1 := below_putH B0 (o := .map (#[].push ⟨.int .u8 7, meth 40 p, 0⟩) (0 + 1)) (Nat.le_refl _)
  have z1 := (Array.getElem?_eq_some_iff.1 hb1).1
  generalize putH w1 w.heap.size (.map (#[].push ⟨.int .u8 7, meth 40 p, 0⟩) (0 + 1)) = w2 at hb1 B1 z1
  refine meth_step (dA := 37) (dB := 38) (f := 41) (x := 9) S1 (by decide) (by decide) (by decide) (by decide) (hnone 37 (by decide) (by decide)) (hnone 38 (by decide) (by decide)) (by kernel_rfl) (by kernel_rfl) (by kernel_rfl) (by kernel_rfl) (by kernel_rfl) (by kernel_rfl) (by kernel_rfl) (by kernel_rfl) (by kernel_rfl) hb1 rfl fun a2 S2 D2 => ?_
  have hb2 := putH_at (o := .map ((#[].push ⟨.int .u8 7, meth 40 p, 0⟩).push ⟨.int .u8 9, meth 41 p, 0 + 1⟩) (0 + 1 + 1)) z1
  have B2 := below_putH B1 (o := .map ((#[].push ⟨.int .u8 7, meth 40 p, 0⟩).push ⟨.int .u8 9, meth 41 p, 0 + 1⟩) (0 + 1 + 1)) (Nat.le_refl _)
  have z2 := (Array.getElem?_eq_some_iff.1 hb2).1
  generalize putH w2 w.heap.size (.map ((#[].push ⟨.int .u8 7, meth 40 p, 0⟩).push ⟨.int .u8 9, meth 41 p, 0 + 1⟩) (0 + 1 + 1)) = w3 at hb2 B2 z2
  refine meth_step (dA := 39) (dB := 40) (f := 42) (x := 11) S2 (by decide) (by decide) (by decide) (by decide) (hnone 39 (by decide) (by decide)) (hnone 40 (by decide) (by decide)) (by kernel_rfl) (by kernel_rfl) (by kernel_rfl) (by kernel_rfl) (by kernel_rfl) (by kernel_rfl) (by kernel_rfl) (by kernel_rfl) (by kernel_rfl) hb2 rfl fun a3 S3 D3 => ?_
  have hb3 := putH_at (o := .map (ents p) 3) z2
  have B3 := below_putH B2 (o := .map (ents p) 3) (Nat.le_refl _)
  have z3 := (Array.getElem?_eq_some_iff.1 hb3).1
  show wpList Try.prog (opsOf rg6) Q [opOf rg6 10, opOf rg6 11, opOf rg6 12, opOf rg6 13, opOf rg6 14] a3 (putH w3 w.heap.size (.map (ents p) 3))
  generalize putH w3 w.heap.size (.map (ents p) 3) = w4 at hb3 B3 z3
  refine wpl_step (v := .map (some w.heap.size)) (w' := w4) (by kernel_rfl) (by simp [execOp, oa, Act.eval, S3.e34]) ?_
  rw [da]
  have S4 := S3.put (d := 41) (by decide) (hnone 41 (by decide) (by decide)) (.map (some w.heap.size))
  have e41 : (a3.put (some 41) (.map (some w.heap.size))).tmps[41]? = some (.map (some w.heap.size)) := by simp [Act.put, S3.size]
  have D4 : (a3.put (some 41) (.map (some w.heap.size))).defers = a3.defers := put_defers
  generalize a3.put (some 41) (.map (some w.heap.size)) = a4 at S4 e41 D4
  have hi4 := hi.grown B3
  subst hfr'
  have db : (opOf rg6 11).dst = some 42 := by kernel_rfl
  have dc : (opOf rg6 12).dst = some 43 := by kernel_rfl
  have wb : ∀ tm, Region.wanted (opOf rg6 11) (yielded (opsOf rg6) tm) = true := fun tm => by simp [Region.wanted, show (opOf rg6 11).guard = none by kernel_rfl]
  have wc : ∀ tm, Region.wanted (opOf rg6 12) (yielded (opsOf rg6) tm) = true := fun tm => by simp [Region.wanted, show (opOf rg6 12).guard = none by kernel_rfl]
  unfold wpList
  rw [if_pos (wb _)]
  refine .inl (h11.2 ν a4 w4 (fun x _ v hv => val_eval S4.fr hv) (hi4.rep.pre _) _ _ fun ν5 v5 w5 hp5 hv5 => ?_)
  have i5 := (Inv.start hi4.rep).step h11.1 (fun id hid => List.mem_append.2 (.inl (List.mem_range.2 hid))) hp5
  have f5 := (S4.fr.le (Post.le (hi4.rep.pre _) hp5)).put (d := some 42) hv5
  rw [db]
  have e41' : (a4.put (some 42) v5).tmps[41]? = some (.map (some w.heap.size)) := by simp only [Act.put]; rw [Array.getElem?_setIfInBounds_ne (by decide)]; exact e41
  have s5 : (a4.put (some 42) v5).tmps.size = 53 := by rw [put_size, S4.size]
  have D5 : (a4.put (some 42) v5).defers = a4.defers := put_defers
  generalize a4.put (some 42) v5 = a5 at f5 e41' s5 D5
  unfold wpList
  rw [if_pos (wc _)]
  refine .inl (h12.2 ν5 a5 w5 (fun x _ v hv => val_eval f5 hv) (i5.rep.pre _) _ _ fun ν6 v6 w6 hp6 hv6 => ?_)
  have i6 := i5.step h12.1 (fun id hid => List.mem_append.2 (.inl (List.mem_range.2 hid))) hp6
  have f6 := (f5.le (Post.le (i5.rep.pre _) hp6)).put (d := some 43) hv6
  rw [dc]
  have hv6' : v6 = .int .u8 kind := hv6
  subst hv6'
  have e41'' : (a5.put (some 43) (.int .u8 kind)).eval (.tmp 41) = .map (some w.heap.size) := by
    have h41 : (a5.put (some 43) (.int .u8 kind)).tmps[41]? = some (.map (some w.heap.size)) := by simp only [Act.put]; rw [Array.getElem?_setIfInBounds_ne (by decide)]; exact e41'
    simp [Act.eval, h41]
  have e43 : (a5.put (some 43) (.int .u8 kind)).eval (.tmp 43) = .int .u8 kind := by simp [Act.eval, Act.put, s5]
  have s6 : (a5.put (some 43) (.int .u8 kind)).tmps.size = 53 := by rw [put_size, s5]
  have D6 : (a5.put (some 43) (.int .u8 kind)).defers = a5.defers := put_defers
  generalize a5.put (some 43) (.int .u8 kind) = a6 at f6 e41'' e43 s6 D6
  have i6' := hi4.loads i6
  have hb6 : w6.heap[w.heap.size]? = some (.map (ents p) 3) := (i6.frame w.heap.size z3 (fun id N _ h => by simp at h)).trans hb3
  have hle : Le ν ν6 := fun id N hN => by
    rcases Nat.lt_or_ge id hp.length with h | h
    · rw [i6.same id h]; exact hN
    · rw [hi.rep.dom id h] at hN; cases hN
  have hvf : VR ν6 (meth f pa) (meth f p) := ⟨#[p], #[], rfl, .cons (hpa _ _ (r0.le hle)) .nil, .nil⟩
  refine wpl_step (v := meth f p) (w' := w6) (by kernel_rfl) (by simp [execOp, od, e41'', e43, run_look und78 und35 hb6 kind (hf p), Result.andThen]) ?_
  rw [dd]
  have f7 := f6.put (d := some 44) hvf
  have e44 : (a6.put (some 44) (meth f p)).eval (.tmp 44) = meth f p := by simp [Act.eval, Act.put, s6]
  have D7 : (a6.put (some 44) (meth f p)).defers = a6.defers := put_defers
  generalize a6.put (some 44) (meth f p) = a7 at f7 e44 D7
  refine wpl_step (v := meth f p) (w' := w6) (by kernel_rfl) (by simp [execOp, oe, e44]) ?_
  rw [de]
  unfold wpList
  exact hQ ν6 _ w6 i6' (f7.put (d := some 9) hvf) (by rw [put_defers, D7, D6, D5, D4, D3, D2, D1, hD0])
abbrev slN : Value := .slice none 0 0
abbrev slB (b n c : Nat) : Value := .slice (some ⟨b, 0, none⟩) n c
def frM (now : Int) (id : Nat) : Fr := frOf 53 [(0, at_ 0 0), (2, .int .i64 now), (4, at_ id 0)]
theorem frM_none (now : Int) (id : Nat) : ∀ d, 34 ≤ d → d ≤ 41 → (frM now id).get d = none := by
  intro d h1 h2
  rcases (show d = 34 ∨ d = 35 ∨ d = 36 ∨ d = 37 ∨ d = 38 ∨ d = 39 ∨ d = 40 ∨ d = 41 by omega) with rfl | rfl | rfl | rfl | rfl | rfl | rfl | rfl <;> rfl
theorem map_go {m : Nat} {now : Int} {id : Nat} {hp : Hp} {kind : Int} {f : FuncId} {i : Nat} {o2 : Out}
    (r11 : go (opS Try.prog (callA Try.prog (toldA Try.prog (exec Try.prog 8))) (frM now id) hp (opOf rg6 11)) [] = some (⟨at_ id 0, hp, []⟩, true, []))
    (r12 : go (opS Try.prog (callA Try.prog (toldA Try.prog (exec Try.prog 8))) (putT (frM now id) (some 42) (at_ id 0)) hp (opOf rg6 12)) [] = some (⟨.int .u8 kind, hp, []⟩, true, []))
    (hf : ∀ p, Instr.findNow (.int .u8) (.int .u8 kind) (ents p).toList 0 = some (some (i, meth f p)))
    (ht : tidy Try.prog m [2, 4, 9] ⟨.normal, putT (putT (putT (putT (frM now id) (some 42) (at_ id 0)) (some 43) (.int .u8 kind)) (some 44) (meth f (at_ 0 0))) (some 9) (meth f (at_ 0 0)), hp, []⟩ = some o2) :
    CodeSpec Try.prog m rg6 (frM now id) hp o2 :=
  CodeSpec.tidy_out (keep := [2, 4, 9]) (mapRg (fr := frM now id) (pa := at_ 0 0) rfl (frM_none now id) rfl (fun _ _ h => h)
    (go_ok (opS_sat tnamed (fun g args hids => sound_exec tnamed tcalm tmixed 8 _ g args _ hids) fun id hid => List.mem_append.2 (.inr hid)) r11 all_nil)
    (go_ok (opS_sat tnamed (fun g args hids => sound_exec tnamed tcalm tmixed 8 _ g args _ hids) fun id hid => List.mem_append.2 (.inr hid)) r12 all_nil) rfl hf) ht
def mapOut (f : FuncId) (now : Int) (id : Nat) (hp : Hp) : Out := ⟨.normal, frOf 53 [(2, .int .i64 now), (4, at_ id 0), (9, meth f (at_ 0 0))], hp, []⟩
def hpM0 : Hp := [.own 67 [.int .i64 1, .int .i64 3, .bool false, .int .i64 0, slN, .int .i64 0, .int .i64 0], .own 3 [.int .i64 1, .int .i64 2], .own 38 [.int .u8 7, slB 1 2 2]]
def hpM1 : Hp := [.own 67 [.int .i64 1, .int .i64 3, .bool true, .int .i64 2, slN, .int .i64 10, .int .i64 0], .own 3 [.int .i64 1, .int .i64 0, .int .i64 2, .int .i64 5, .int .i64 6, .int .i64 7, .int .i64 8], .own 38 [.int .u8 9, slB 1 7 7]]
def hpM2 : Hp := [.own 67 [.int .i64 1, .int .i64 3, .bool true, .int .i64 2, slB 2 1 1, .int .i64 210, .int .i64 1], .own 3 [.int .i64 1, .int .i64 1, .int .i64 4, .int .i64 0, .int .i64 0, .int .i64 0, .int .i64 (-1)], .own 36 [slB 3 5 5], .own 3 [.int .i64 2, .int .i64 5, .int .i64 6, .int .i64 7, .int .i64 8], .own 38 [.int .u8 9, slB 1 7 7]]
theorem map_0 : CodeSpec Try.prog 2 rg6 (frM 10 2) hpM0 (mapOut 40 10 2 hpM0) := map_go (i := 0) (kind := 7) (f := 40) (by kernel_rfl) (by kernel_rfl) (fun _ => rfl) (by kernel_rfl)
theorem map_1 : CodeSpec Try.prog 2 rg6 (frM 10 2) hpM1 (mapOut 41 10 2 hpM1) := map_go (i := 1) (kind := 9) (f := 41) (by kernel_rfl) (by kernel_rfl) (fun _ => rfl) (by kernel_rfl)
theorem map_2 : CodeSpec Try.prog 4 rg6 (frM 211 4) hpM2 (mapOut 41 211 4 hpM2) := map_go (i := 1) (kind := 9) (f := 41) (by kernel_rfl) (by kernel_rfl) (fun _ => rfl) (by kernel_rfl)
theorem res_refl {r : Res} : Res.le r r := ⟨rfl, rfl, fun j hj => hj⟩
end Go.Proofs.Ythjlpklloioknaa.Ex
end
section
set_option linter.unusedSectionVars false
set_option linter.unusedSimpArgs false
set_option linter.unusedVariables false
namespace Go.Proofs.Ythjlpklloioknaa.Ex
open Go
set_option linter.unusedVariables false
section
variable (_x : Nat)
include _x
theorem awk_p : go (exec (Try.prog) (14) (10) ([]) ([])) [(652, Itm.loop [0, 2, 4] (Out.mk Xt.normal (frOf 53 [(2, .int .i64 10), (4, (zPA 2)), (9, Value.func (Fn.func 40) #[(zPA 0)] #[])]) [.own 67 [.int .i64 1, .int .i64 3, .bool false, .int .i64 0, zSN, .int .i64 0, .int .i64 0], .own 3 [.int .i64 1, .int .i64 2], .own 38 [.int .u8 7, (zSB 1 2 2)]] [])), (1686, Itm.loop [0, 2, 4] (Out.mk Xt.normal (frOf 53 [(2, .int .i64 10), (4, (zPA 2)), (9, Value.func (Fn.func 41) #[(zPA 0)] #[])]) [.own 67 [.int .i64 1, .int .i64 3, .bool true, .int .i64 2, zSN, .int .i64 10, .int .i64 0], .own 3 [.int .i64 1, .int .i64 0, .int .i64 2, .int .i64 5, .int .i64 6, .int .i64 7, .int .i64 8], .own 38 [.int .u8 9, (zSB 1 7 7)]] [])), (1958, Itm.loop [0, 2, 4] (Out.mk Xt.normal (frOf 53 [(2, .int .i64 211), (4, (zPA 4)), (9, Value.func (Fn.func 41) #[(zPA 0)] #[])]) [.own 67 [.int .i64 1, .int .i64 3, .bool true, .int .i64 2, (zSB 2 1 1), .int .i64 210, .int .i64 1], .own 3 [.int .i64 1, .int .i64 1, .int .i64 4, .int .i64 0, .int .i64 0, .int .i64 0, .int .i64 (-1)], .own 36 [(zSB 3 5 5)], .own 3 [.int .i64 2, .int .i64 5, .int .i64 6, .int .i64 7, .int .i64 8], .own 38 [.int .u8 9, (zSB 1 7 7)]] []))] = some (.mk (.bool true) [] [], true, [CodeSpec Try.prog 2 rg6 (frOf 53 [(0, (zPA 0)), (2, .int .i64 10), (4, (zPA 2))]) [.own 67 [.int .i64 1, .int .i64 3, .bool false, .int .i64 0, zSN, .int .i64 0, .int .i64 0], .own 3 [.int .i64 1, .int .i64 2], .own 38 [.int .u8 7, (zSB 1 2 2)]] (Out.mk Xt.normal (frOf 53 [(2, .int .i64 10), (4, (zPA 2)), (9, Value.func (Fn.func 40) #[(zPA 0)] #[])]) [.own 67 [.int .i64 1, .int .i64 3, .bool false, .int .i64 0, zSN, .int .i64 0, .int .i64 0], .own 3 [.int .i64 1, .int .i64 2], .own 38 [.int .u8 7, (zSB 1 2 2)]] []), CodeSpec Try.prog 2 rg6 (frOf 53 [(0, (zPA 0)), (2, .int .i64 10), (4, (zPA 2))]) [.own 67 [.int .i64 1, .int .i64 3, .bool true, .int .i64 2, zSN, .int .i64 10, .int .i64 0], .own 3 [.int .i64 1, .int .i64 0, .int .i64 2, .int .i64 5, .int .i64 6, .int .i64 7, .int .i64 8], .own 38 [.int .u8 9, (zSB 1 7 7)]] (Out.mk Xt.normal (frOf 53 [(2, .int .i64 10), (4, (zPA 2)), (9, Value.func (Fn.func 41) #[(zPA 0)] #[])]) [.own 67 [.int .i64 1, .int .i64 3, .bool true, .int .i64 2, zSN, .int .i64 10, .int .i64 0], .own 3 [.int .i64 1, .int .i64 0, .int .i64 2, .int .i64 5, .int .i64 6, .int .i64 7, .int .i64 8], .own 38 [.int .u8 9, (zSB 1 7 7)]] []), CodeSpec Try.prog 4 rg6 (frOf 53 [(0, (zPA 0)), (2, .int .i64 211), (4, (zPA 4))]) [.own 67 [.int .i64 1, .int .i64 3, .bool true, .int .i64 2, (zSB 2 1 1), .int .i64 210, .int .i64 1], .own 3 [.int .i64 1, .int .i64 1, .int .i64 4, .int .i64 0, .int .i64 0, .int .i64 0, .int .i64 (-1)], .own 36 [(zSB 3 5 5)], .own 3 [.int .i64 2, .int .i64 5, .int .i64 6, .int .i64 7, .int .i64 8], .own 38 [.int .u8 9, (zSB 1 7 7)]] (Out.mk Xt.normal (frOf 53 [(2, .int .i64 211), (4, (zPA 4)), (9, Value.func (Fn.func 41) #[(zPA 0)] #[])]) [.own 67 [.int .i64 1, .int .i64 3, .bool true, .int .i64 2, (zSB 2 1 1), .int .i64 210, .int .i64 1], .own 3 [.int .i64 1, .int .i64 1, .int .i64 4, .int .i64 0, .int .i64 0, .int .i64 0, .int .i64 (-1)], .own 36 [(zSB 3 5 5)], .own 3 [.int .i64 2, .int .i64 5, .int .i64 6, .int .i64 7, .int .i64 8], .own 38 [.int .u8 9, (zSB 1 7 7)]] [])]) := by kernel_rfl
theorem awk (R : Res) (k_p : Res.le (.mk (.bool true) [] []) R) : CallSpec (Try.prog) (10) ([]) ([]) R := by
  exact (CallSpec.id (go_ok (exec_ok tnamed tcalm tmixed _ _ _ _) (awk_p _x ) (aC (map_0) (aC (map_1) (aC (map_2) aN))))).le (k_p )
end
end Go.Proofs.Ythjlpklloioknaa.Ex
end
section
set_option linter.unusedSectionVars false
set_option linter.unusedSimpArgs false
set_option linter.unusedVariables false
namespace Go.Proofs.Ythjlpklloioknaa.Ex
open Go
set_option linter.unusedVariables false
theorem awake_done : CallSpec Try.prog 10 [] [] ⟨.bool true, [], []⟩ := awk 0 _ res_refl
section
variable (k now : Int)
include k now
theorem un_n_p : go (exec (Try.prog) (12) (7) ([.agg #[.int .u8 k, slN], .int .i64 now]) ([])) [(355, .call (.mk (.bool true) [] []))] = some (.mk (.bool true) [] [], true, [CallSpec Try.prog 10 [] [] (.mk (.bool true) [] [])]) := by kernel_rfl
theorem un_n (R : Res) (k_p : Res.le (.mk (.bool true) [] []) R) : CallSpec (Try.prog) (7) ([.agg #[.int .u8 k, slN], .int .i64 now]) ([]) R := by
  exact (CallSpec.id (go_ok (exec_ok tnamed tcalm tmixed _ _ _ _) (un_n_p k now ) (aC (awake_done) aN))).le (k_p )
end
section
variable (k now : Int)
include k now
theorem un_e_p : go (exec (Try.prog) (12) (7) ([.agg #[.int .u8 k, slB 0 0 0], .int .i64 now]) ([.dead])) [(356, .call (.mk (.bool true) [] []))] = some (.mk (.bool true) [.dead] [], true, [CallSpec Try.prog 10 [] [] (.mk (.bool true) [] [])]) := by kernel_rfl
theorem un_e (R : Res) (k_p : Res.le (.mk (.bool true) [.dead] []) R) : CallSpec (Try.prog) (7) ([.agg #[.int .u8 k, slB 0 0 0], .int .i64 now]) ([.dead]) R := by
  exact (CallSpec.id (go_ok (exec_ok tnamed tcalm tmixed _ _ _ _) (un_e_p k now ) (aC (awake_done) aN))).le (k_p )
end
section
variable (k now : Int) (n : Nat) (cs : List Value) (hcs : List.length cs = n) (hn : 1 ≤ n ∧ n ≤ 17592186043904)
include k now n cs hcs hn
theorem un_s_p : go (exec (Try.prog) (12) (7) ([.agg #[.int .u8 k, slB 0 n n], .int .i64 now]) ([.ro 3 cs])) [(63, Itm.must), (1, Itm.must), (0, .dec false), (289, .call (.mk (.bool true) [] []))] = some (.mk (.bool true) [.ro 3 cs] [], true, [decide (0 + n * 1 ≤ List.length cs) = true, (decide (n * 8 ≤ 140737488355328) && decide (n ≤ 140737488355328)) = true, decide (n = 0) = false, CallSpec Try.prog 10 [] [] (.mk (.bool true) [] [])]) := by kernel_rfl
theorem un_s (R : Res) (k_p : Res.le (.mk (.bool true) [.ro 3 cs] []) R) : CallSpec (Try.prog) (7) ([.agg #[.int .u8 k, slB 0 n n], .int .i64 now]) ([.ro 3 cs]) R := by
  exact (CallSpec.id (go_ok (exec_ok tnamed tcalm tmixed _ _ _ _) (un_s_p k now n cs hcs hn ) (aC dO (aC ((by simp [ByteArray.size_append, ByteArray.size_extract, sz_mk] <;> omega)) (aC dN (aC (awake_done) aN)))))).le (k_p )
end
end Go.Proofs.Ythjlpklloioknaa.Ex
end
section
set_option linter.unusedSectionVars false
set_option linter.unusedSimpArgs false
set_option linter.unusedVariables false
namespace Go.Proofs.Ythjlpklloioknaa.Ex
open Go Go.ChangeShapes Go.WideShapes Go.ChangeAt Go.RowKit
set_option linter.unusedVariables false
set_option linter.unusedSimpArgs false
theorem flats_VR (ν : Nu) : ∀ l : List Value, l.all flat = true → L2 (VR ν) l l
  | [], _ => .nil
  | v :: l, h => by
    rw [List.all_cons, Bool.and_eq_true] at h
    exact .cons ((flat_VR h.1 _).2 rfl) (flats_VR ν l h.2)
theorem len_flat (l : List Int) : (l.flatMap fun a => [Value.int .i64 a]).length = l.length := by
  induction l with
  | nil => rfl
  | cons a l ih => rw [List.flatMap_cons, List.length_append, ih, List.length_cons, List.length_cons, List.length_nil]; omega
set_option maxRecDepth 100000 in
theorem msg_row (W : World) {H : Type} {enc : TypeId × Value → H} {held : Bool} {fuel : Nat} {cs : Array Value} {x : DataW H × List MemPlace} (ht : DataW.trod enc Try.prog W 0 (fun _ => true) held fuel 38 (Value.agg cs).cells.toList = some x) (hw : ∀ n ∈ x.1.weights Try.prog 38, n ≤ 140737488351232)
    {f : FuncId} (rest : List Value) (hr : rest.all flat = true) (k0 : ∀ k, CallSpec Try.prog f (.agg #[.int .u8 k, slN] :: rest) [] ⟨.bool true, [], []⟩) (k1 : ∀ k, CallSpec Try.prog f (.agg #[.int .u8 k, slB 0 0 0] :: rest) [.dead] ⟨.bool true, [.dead], []⟩)
    (k2 : ∀ k (n : Nat) (us : List Value), us.length = n → (1 ≤ n ∧ n ≤ 17592186043904) → CallSpec Try.prog f (.agg #[.int .u8 k, slB 0 n n] :: rest) [.ro 3 us] ⟨.bool true, [.ro 3 us], []⟩) :
    ∃ (args' : List Value) (hp hp' : Hp) (ν : Nu) (args0 : List Value), (Value.agg cs :: rest).toArray = args'.toArray ∧ L2 (VR ν) args0 args' ∧ Rep Try.prog ν hp W ∧ CallSpec Try.prog f args0 hp ⟨.bool true, hp', []⟩ := by
  obtain ⟨xs, m, _, rfl, hl, hlen, hf⟩ := DataW.trod_struct Try.underlying38 ht
  have c38 : Try.prog.cellsOf 38 = 2 := by kernel_rfl
  have c35 : Try.prog.cellsOf 35 = 1 := by kernel_rfl
  have c36 : Try.prog.cellsOf 36 = 1 := by kernel_rfl
  rw [c38] at hl
  have hcs : (Value.agg cs).cells = cs := rfl
  rw [hcs] at hl hf
  obtain ⟨l⟩ := cs
  match l, hl with
  | [k0', k1'], _ =>
    match xs, hlen with
    | [y0, y1], _ =>
      have f0 := hf 0 _ rfl
      have f1 := hf 1 _ rfl
      simp only [c35, c36] at f0 f1
      obtain ⟨k, e1, _, g1⟩ := DataW.trod_int Try.underlying35 f0
      have e1 : [k0'] = [.int .u8 k] := e1
      cases e1
      have hw1 : ∀ n ∈ y1.1.weights Try.prog 36, n ≤ 140737488351232 := fun n hn => hw n (by
        simp only [DataW.weights, Try.underlying38, List.map_cons, List.map_nil, DataW.weightsEach, List.mem_append]
        exact .inr (.inl hn))
      have agg : ∀ {ν : Nu} {u : Value}, VR ν u k1' → (∀ v, VR ν u v → VR1 ν u v) → VR ν (.agg #[.int .u8 k, u]) (.agg #[.int .u8 k, k1']) := fun h h1 => ⟨_, rfl, .cons rfl (.cons (h1 _ h) .nil)⟩
      rcases open_row 8 Try.underlying36 (by kernel_rfl) (by decide) (by kernel_rfl) (.inr trivial) (show OpF Try.prog 3 _ _ _ from OpF.int (k := .i64) (by kernel_rfl) Try.underlying3) (by intro a; rfl) f1 hw1 with rfl | ⟨ν, h1, h2⟩ | ⟨l, ν, h0, hb, hg, h1, h2⟩
      · exact ⟨_, [], _, fun _ => none, _, rfl, .cons (agg (u := slN) rfl fun _ h => h) (flats_VR _ rest hr), rep_none W, k0 k⟩
      · exact ⟨_, _, _, ν, _, rfl, .cons (agg h1 fun _ h => h) (flats_VR _ rest hr), h2, k1 k⟩
      · exact ⟨_, _, _, ν, _, rfl, .cons (agg h1 fun _ h => h) (flats_VR _ rest hr), h2, k2 k _ _ (len_flat l) ⟨h0, by omega⟩⟩
end Go.Proofs.Ythjlpklloioknaa.Ex
end
