import Derived.Test.YtjalkjeldlchoaaYTre1
import Derived.Orders
import Derived.LoopN
import Derived.KernelRfl
import Derived.IntWalk
import Derived.Test.YtjalkjeldlchoaaChecked
import Derived.SizedLaws
import Derived.ChangeSlices
import Derived.OpenShut
import Derived.Deep.Slices
import Derived.ShutString
import Derived.ChangeOld
import Derived.Below
import Derived.Carry
import Derived.WalkKit
import Derived.ProofKit
import Derived.RowKit
section
set_option linter.unusedSectionVars false
set_option linter.unusedSimpArgs false
set_option linter.unusedVariables false
namespace Go.Proofs.Ytjalkjeldlchoaa.Ex
open Go
set_option linter.unusedVariables false
set_option linter.unusedSimpArgs false
theorem fold_push {β : Type} (f : Array Nat → β → Nat) : ∀ (l : List β) (acc : Array Nat),
    (l.foldl (fun acc o => acc.push (f acc o)) acc).size = acc.size + l.length ∧ (∀ k, k < acc.size → (l.foldl (fun acc o => acc.push (f acc o)) acc)[k]? = acc[k]?) ∧
    ∀ k o, l[k]? = some o → ∃ acc' : Array Nat, acc'.size = acc.size + k ∧ (∀ m, m < acc'.size → (l.foldl (fun acc o => acc.push (f acc o)) acc)[m]? = acc'[m]?) ∧ (l.foldl (fun acc o => acc.push (f acc o)) acc)[acc.size + k]? = some (f acc' o)
  | [], acc => ⟨rfl, fun _ _ => rfl, fun k o h => by simp at h⟩
  | x :: l, acc => by
    obtain ⟨h1, h2, h3⟩ := fold_push f l (acc.push (f acc x))
    rw [List.foldl_cons]
    refine ⟨by rw [h1]; simp; omega, fun k hk => ?_, fun k o hk => ?_⟩
    · rw [h2 k (by simp; omega), Array.getElem?_push, if_neg (by omega)]
    · cases k with
      | zero =>
        cases hk
        refine ⟨acc, rfl, fun m hm => ?_, ?_⟩
        · rw [h2 m (by simp; omega), Array.getElem?_push, if_neg (by omega)]
        · rw [Nat.add_zero, h2 acc.size (by simp)]
          simp
      | succ k =>
        obtain ⟨acc', k1, k2, k3⟩ := h3 k o (by simpa using hk)
        refine ⟨acc', by rw [k1]; simp; omega, k2, ?_⟩
        rw [← k3]
        congr 1
        simp
        omega
theorem edges_bit {md : Region.Mode} {acc : Array Nat} {i : Nat} : ∀ (es : List Edge) (s : Nat), (es.foldl (fun s e => if Region.binds md e then s ||| 2 ^ e.on ||| acc.getD e.on 0 else s) s).testBit i = true →
    s.testBit i = true ∨ ∃ e, e ∈ es ∧ Region.binds md e = true ∧ (i = e.on ∨ (acc.getD e.on 0).testBit i = true)
  | [], s, h => .inl h
  | e :: es, s, h => by
    rw [List.foldl_cons] at h
    rcases edges_bit es _ h with h | ⟨e', k1, k2⟩
    · split at h
      · rename_i hb
        rw [Nat.testBit_or, Nat.testBit_or, Bool.or_eq_true, Bool.or_eq_true, Nat.testBit_two_pow] at h
        rcases h with (h | h) | h
        · exact .inl h
        · exact .inr ⟨e, by simp, hb, .inl (by simpa using (of_decide_eq_true h).symm)⟩
        · exact .inr ⟨e, by simp, hb, .inr h⟩
      · exact .inl h
    · exact .inr ⟨e', by simp [k1], k2⟩
theorem before_edge {ops : Array Oper} {i j : Nat} (h : ((Region.before ops).getD j 0).testBit i = true) :
    ∃ o e, ops[j]? = some o ∧ e ∈ o.after.toList ∧ Region.binds .any e = true ∧ (i = e.on ∨ (e.on < j ∧ ((Region.before ops).getD e.on 0).testBit i = true)) := by
  unfold Region.before at h ⊢
  rw [← Array.foldl_toList] at h ⊢
  have key := fold_push (fun (acc : Array Nat) (o : Oper) => o.after.foldl (fun s e => if Region.binds .any e then s ||| 2 ^ e.on ||| acc.getD e.on 0 else s) 0) ops.toList #[]
  revert h key
  generalize ops.toList.foldl (fun acc o => acc.push (o.after.foldl (fun s e => if Region.binds .any e then s ||| 2 ^ e.on ||| acc.getD e.on 0 else s) 0)) #[] = R
  intro h key
  obtain ⟨h1, _, h3⟩ := key
  have hj : j < ops.size := by
    rcases Nat.lt_or_ge j ops.size with c | c
    · exact c
    · rw [Array.getD_eq_getD_getElem?, Array.getElem?_eq_none (by rw [h1]; simp; omega)] at h
      simp at h
  obtain ⟨acc', k1, k2, k3⟩ := h3 j ops[j] (by simp [hj])
  simp only [List.size_toArray, List.length_nil, Nat.zero_add] at k1 k3
  rw [Array.getD_eq_getD_getElem?, k3, Option.getD_some, ← Array.foldl_toList] at h
  rcases edges_bit _ _ h with h | ⟨e, q1, q2, q3⟩
  · simp at h
  · refine ⟨ops[j], e, by simp [hj], q1, q2, q3.imp id fun hb => ?_⟩
    rcases Nat.lt_or_ge e.on acc'.size with c | c
    · refine ⟨by omega, ?_⟩
      rw [Array.getD_eq_getD_getElem?, k2 e.on c, ← Array.getD_eq_getD_getElem?]
      exact hb
    · rw [Array.getD_eq_getD_getElem?, Array.getElem?_eq_none c] at hb
      simp at hb
theorem before_closed {ops : Array Oper} {S : Nat → Prop} (hS : ∀ j o e, S j → ops[j]? = some o → e ∈ o.after.toList → Region.binds .any e = true → S e.on) : ∀ (j i : Nat), S j → ((Region.before ops).getD j 0).testBit i = true → S i := by
  intro j
  induction j using Nat.strongRecOn with
  | _ j ih =>
    intro i hj hb
    obtain ⟨o, e, h1, h2, h3, h4⟩ := before_edge hb
    have he := hS j o e hj h1 h2 h3
    rcases h4 with rfl | ⟨hlt, hb'⟩
    · exact he
    · exact ih e.on hlt i he hb'
end Go.Proofs.Ytjalkjeldlchoaa.Ex
namespace Go.Proofs.Ytjalkjeldlchoaa.Ex
open Go
set_option linter.unusedVariables false
set_option linter.unusedSimpArgs false
section
variable {P : Program}
def Seen (all : Array Oper) (ν : Nu) (fr : Fr) (tmps : Array Value) (o : Oper) : Prop := ∀ d v, d ∈ o.looksAt all → fr.get d = some v → ∃ v', tmps[d]? = some v' ∧ VR ν v v'
def Wants (all : Array Oper) (fr : Fr) (o : Oper) (b : Bool) : Prop := ∀ ν (tmps : Array Value), Seen all ν fr tmps o → Region.wanted o (yielded all tmps) = b
theorem wants_sat {ops : Array Oper} {fr : Fr} {o : Oper} : Sat (wantA ops fr o) (Wants ops fr o) := by
  unfold wantA
  split
  · rename_i hg
    exact Sat.ret _ fun ν tmps h => by simp [Region.wanted, hg]
  · rename_i j want hg
    split
    · rename_i hd
      exact Sat.ret _ fun ν tmps h => by simp [Region.wanted, hg, yielded, hd]
    · rename_i d hd
      have hin : d ∈ o.looksAt ops := by simp [Oper.looksAt, hg, hd]
      split
      · rename_i b hb
        refine Sat.bind_ask (Sat.ret _ fun ν tmps h => ?_)
        obtain ⟨v', h1, h2⟩ := h d _ hin hb
        have : v' = .bool b := h2
        subst this
        simp [Region.wanted, hg, yielded, hd, h1]
      · rename_i hb
        refine Sat.ret _ fun ν tmps h => ?_
        obtain ⟨v', h1, h2⟩ := h d _ hin hb
        obtain ⟨cs', rfl, hl⟩ := h2
        simp [Region.wanted, hg, yielded, hd, h1]
      · exact Sat.stop
def OneStep (P : Program) (all : Array Oper) (o : Oper) (fr : Fr) (hp : Hp) (fr' : Fr) (hp' : Hp) (s : Step) : Prop :=
  (Wants all fr o true ∧ ∃ r, OpOk P (footA P fr hp o) fr hp o r ∧ fr' = putT fr o.dst r.v ∧ hp' = r.hp ∧ s = ⟨footA P fr hp o, r.wr, hp.length, r.hp.length⟩) ∨
  (Wants all fr o false ∧ fr' = putT fr o.dst undef ∧ hp' = hp ∧ s = ⟨[], [], hp.length, hp.length⟩)
theorem seqs_sat {call : CallF} (hN : Named P) (hcall : Sound P call) {all : Array Oper} : ∀ (os : List Oper) (fr : Fr) (hp : Hp) (wr : List Nat) (st : List Step),
    Sat (opsA P call all os fr hp wr st) fun r => ∃ (f : Nat → Fr) (h : Nat → Hp) (s : Nat → Step), f 0 = fr ∧ h 0 = hp ∧ (∀ k o, os[k]? = some o → OneStep P all o (f k) (h k) (f (k + 1)) (h (k + 1)) (s k)) ∧
      f os.length = r.1 ∧ h os.length = r.2.1 ∧ (∀ id, id ∈ r.2.2.1 ↔ id ∈ wr ∨ ∃ k, k < os.length ∧ id ∈ (s k).wr) ∧ r.2.2.2 = st.reverse ++ (List.range os.length).map s
  | [], fr, hp, wr, st => Sat.ret _ ⟨fun _ => fr, fun _ => hp, fun _ => ⟨[], [], 0, 0⟩, rfl, rfl, fun k o h => by simp at h, rfl, rfl, fun id => ⟨.inl, fun h => h.elim (fun x => x) (fun ⟨k, hk, _⟩ => by simp at hk)⟩, by simp⟩
  | o :: os, fr, hp, wr, st => by
    have glue : ∀ (fr1 : Fr) (hp1 : Hp) (s0 : Step), OneStep P all o fr hp fr1 hp1 s0 → ∀ wr1 : List Nat, (∀ id, id ∈ wr1 ↔ id ∈ s0.wr ∨ id ∈ wr) → ∀ r : Fr × Hp × List Nat × List Step,
        (∃ (f : Nat → Fr) (h : Nat → Hp) (s : Nat → Step), f 0 = fr1 ∧ h 0 = hp1 ∧ (∀ k o, os[k]? = some o → OneStep P all o (f k) (h k) (f (k + 1)) (h (k + 1)) (s k)) ∧
          f os.length = r.1 ∧ h os.length = r.2.1 ∧ (∀ id, id ∈ r.2.2.1 ↔ id ∈ wr1 ∨ ∃ k, k < os.length ∧ id ∈ (s k).wr) ∧ r.2.2.2 = (s0 :: st).reverse ++ (List.range os.length).map s) →
        ∃ (f : Nat → Fr) (h : Nat → Hp) (s : Nat → Step), f 0 = fr ∧ h 0 = hp ∧ (∀ k o', (o :: os)[k]? = some o' → OneStep P all o' (f k) (h k) (f (k + 1)) (h (k + 1)) (s k)) ∧
          f (o :: os).length = r.1 ∧ h (o :: os).length = r.2.1 ∧ (∀ id, id ∈ r.2.2.1 ↔ id ∈ wr ∨ ∃ k, k < (o :: os).length ∧ id ∈ (s k).wr) ∧ r.2.2.2 = st.reverse ++ (List.range (o :: os).length).map s := by
      rintro fr1 hp1 s0 h0 wr1 hw1 r ⟨f, h, s, e1, e2, e3, e4, e5, e6, e7⟩
      refine ⟨fun k => match k with | 0 => fr | k + 1 => f k, fun k => match k with | 0 => hp | k + 1 => h k, fun k => match k with | 0 => s0 | k + 1 => s k, rfl, rfl, ?_, e4, e5, ?_, ?_⟩
      · intro k o' hk
        cases k with
        | zero =>
          simp only [List.getElem?_cons_zero, Option.some.injEq] at hk
          subst hk
          show OneStep P all o fr hp (f 0) (h 0) s0
          rw [e1, e2]
          exact h0
        | succ k => exact e3 k o' (by simpa using hk)
      · intro id
        rw [e6, hw1]
        constructor
        · rintro ((h | h) | ⟨k, hk, h⟩)
          · exact .inr ⟨0, by simp, h⟩
          · exact .inl h
          · exact .inr ⟨k + 1, by simp; omega, h⟩
        · rintro (h | ⟨k, hk, h⟩)
          · exact .inl (.inr h)
          · cases k with
            | zero => exact .inl (.inl h)
            | succ k => exact .inr ⟨k, by simp at hk; omega, h⟩
      · rw [e7, List.length_cons, List.range_succ_eq_map]
        simp
    unfold opsA
    refine Sat.bind wants_sat fun b hb => ?_
    split
    · rename_i hbt
      subst hbt
      refine Sat.bind (opS_sat (F := footA P fr hp o) hN (fun g args hids => hcall _ g args hp hids) fun id hid => hid) fun r hr => (seqs_sat hN hcall os _ _ _ _).mono fun q hq => ?_
      exact glue _ _ ⟨footA P fr hp o, r.wr, hp.length, r.hp.length⟩ (.inl ⟨hb, r, hr, rfl, rfl, rfl⟩) _ (fun id => by simp) q hq
    · rename_i hbf
      have hbf : b = false := by simpa using hbf
      subst hbf
      refine (seqs_sat hN hcall os _ _ _ _).mono fun q hq => ?_
      exact glue _ _ ⟨[], [], hp.length, hp.length⟩ (.inr ⟨hb, rfl, rfl, rfl⟩) _ (fun id => by simp) q hq
end
end Go.Proofs.Ytjalkjeldlchoaa.Ex
namespace Go.Proofs.Ytjalkjeldlchoaa.Ex
open Go
set_option linter.unusedVariables false
set_option linter.unusedSimpArgs false
section
variable {α : Type}
def cur (g : Nat → α) (hit : Nat → Bool) : Nat → Nat × α
  | 0 => (0, g 0)
  | n + 1 => if hit n = true then (n + 1, g (n + 1)) else cur g hit n
theorem cur_stay {g : Nat → α} {hit : Nat → Bool} {i : Nat} : ∀ (n : Nat), i ≤ n → (∀ k, i ≤ k → k < n → hit k = false) → cur g hit n = cur g hit i
  | 0, h, _ => by obtain rfl : i = 0 := by omega
                  rfl
  | n + 1, h, hk => by
    by_cases c : i = n + 1
    · rw [c]
    · unfold cur
      rw [if_neg (by rw [hk n (by omega) (by omega)]; simp)]
      exact (cur_stay n (by omega) fun k h1 h2 => hk k h1 (by omega)).trans (by cases i <;> rfl)
theorem cur_level {g : Nat → α} {hit : Nat → Bool} : ∀ n, (cur g hit n).1 ≤ n ∧ (cur g hit n).2 = g (cur g hit n).1
  | 0 => ⟨Nat.le_refl _, rfl⟩
  | n + 1 => by
    unfold cur
    split
    · exact ⟨Nat.le_refl _, rfl⟩
    · exact ⟨Nat.le_succ_of_le (cur_level n).1, (cur_level n).2⟩
theorem cur_at {g : Nat → α} {S touch : Nat → Bool} {i n : Nat} (hg : ∀ k, k < n → touch k = false → g (k + 1) = g k) (hi : i ≤ n) (h1 : ∀ k, k < i → touch k = true → S k = true) (h2 : ∀ k, i ≤ k → k < n → touch k = true → S k = false) :
    (cur g (fun k => S k && touch k) n).1 ≤ i ∧ (cur g (fun k => S k && touch k) n).2 = g i := by
  rw [cur_stay n hi fun k hk hkn => by
    cases ht : touch k with
    | false => simp
    | true => rw [h2 k hk hkn ht]; rfl]
  refine ⟨(cur_level i).1, ?_⟩
  have key : ∀ m, m ≤ i → (cur g (fun k => S k && touch k) m).2 = g m := by
    intro m
    induction m with
    | zero => intro _; rfl
    | succ m ih =>
      intro hm
      unfold cur
      cases ht : touch m with
      | true => rw [h1 m (by omega) ht]; rfl
      | false =>
        rw [if_neg (by simp), hg m (by omega) ht]
        exact ih (by omega)
  exact key i (Nat.le_refl _)
theorem cur_done {g : Nat → α} {S S' touch : Nat → Bool} {i n : Nat} (hi : i < n) (hS : S' i = true) (ht : touch i = true) (h2 : ∀ k, i < k → k < n → touch k = true → S' k = false) :
    cur g (fun k => S' k && touch k) n = (i + 1, g (i + 1)) := by
  rw [cur_stay (i := i + 1) n (by omega) fun k hk hkn => by
    cases hk' : touch k with
    | false => simp
    | true => rw [h2 k (by omega) hkn hk']; rfl]
  unfold cur
  rw [if_pos (by simp [hS, ht])]
theorem cur_other {g : Nat → α} {S S' touch : Nat → Bool} {i : Nat} (hS : ∀ k, k ≠ i → S' k = S k) (ht : touch i = false) : ∀ n, cur g (fun k => S' k && touch k) n = cur g (fun k => S k && touch k) n
  | 0 => rfl
  | n + 1 => by
    unfold cur
    by_cases c : n = i
    · subst c
      simp only [ht, Bool.and_false, Bool.false_eq_true, if_false]
      exact cur_other hS ht n
    · simp only [hS n c]
      split
      · rfl
      · exact cur_other hS ht n
end
end Go.Proofs.Ytjalkjeldlchoaa.Ex
namespace Go.Proofs.Ytjalkjeldlchoaa.Ex
open Go
set_option linter.unusedVariables false
set_option linter.unusedSimpArgs false
section
variable {P : Program} {fr : Fr} {o : Oper} {ν : Nu}
theorem Seen.env {all : Array Oper} {a : Act} (h : Seen all ν fr a.tmps o) : Env ν fr a o := fun x hx v hv => by
  cases x with
  | tmp t =>
    have hin : t ∈ o.looksAt all := by
      unfold Oper.looksAt
      exact List.mem_append.2 (.inl (List.mem_filterMap.2 ⟨.tmp t, by simpa using hx, rfl⟩))
    obtain ⟨v', h1, h2⟩ := h t v hin hv
    have : a.eval (.tmp t) = v' := by simp [Act.eval, h1]
    rw [this]
    exact h2
  | const c =>
    simp only [val] at hv
    split at hv
    · rename_i hf
      cases hv
      exact (flat_VR hf _).2 rfl
    · cases hv
  | func f => cases hv; exact ⟨#[], #[], rfl, .nil, .nil⟩
  | global g => cases hv
def below (ν : Nu) (n : Nat) : Nu := fun id => if id < n then ν id else none
theorem below_le {n : Nat} : Le (below ν n) ν := fun id N h => by
  unfold below at h
  split at h
  · exact h
  · cases h
theorem below_mono {n k : Nat} (hnk : n ≤ k) : Le (below ν n) (below ν k) := fun id N h => by
  unfold below at h ⊢
  split at h
  · rw [if_pos (by omega)]; exact h
  · cases h
theorem below_out {n id : Nat} (h : n ≤ id) : below ν n id = none := if_neg (by omega)
theorem below_in {n id : Nat} (h : id < n) : below ν n id = ν id := if_pos h
theorem RepBlk.up {w : World} {id : Nat} {b : Blk} {ν' : Nu} (h : Le ν ν') (hb : RepBlk P ν w id b) : RepBlk P ν' w id b := hb.le h (fun _ _ _ => rfl) (Nat.le_refl _)
end
end Go.Proofs.Ytjalkjeldlchoaa.Ex
namespace Go.Proofs.Ytjalkjeldlchoaa.Ex
open Go
set_option linter.unusedVariables false
set_option linter.unusedSimpArgs false
section
variable {P : Program}
def touchT (ops : Array Oper) (t k : Nat) : Bool := match (ops[k]?).bind (·.dst) with
  | some d => d == t
  | none => false
def touchB (s : Nat → Step) (id k : Nat) : Bool := hits (s k) id
def curT (ops : Array Oper) (f : Nat → Fr) (S : Nat → Bool) (t : Nat) : Nat × Option Value := cur (fun k => (f k).get t) (fun k => S k && touchT ops t k) ops.size
def curB (ops : Array Oper) (h : Nat → Hp) (s : Nat → Step) (S : Nat → Bool) (id : Nat) : Nat × Blk := cur (fun k => (h k).getD id .dead) (fun k => S k && touchB s id k) ops.size
structure Stand (P : Program) (ops : Array Oper) (f : Nat → Fr) (h : Nat → Hp) (s : Nat → Step) (w0 : World) (ν0 : Nu) (m : Nat) (wx : List Nat) (S : Nat → Bool) (ν : Nu) (tmps : Array Value) (w : World) : Prop where
  tlen : (f 0).n = tmps.size
  tmp : ∀ t v, (curT ops f S t).2 = some v → ∃ v', tmps[t]? = some v' ∧ VR (below ν (h (curT ops f S t).1).length) v v'
  blk : ∀ id, RepBlk P (below ν (h (curB ops h s S id).1).length) w id (curB ops h s S id).2
  over : ∀ id, (h ops.size).length ≤ id → ν id = none
  made : ∀ k id, k < ops.size → S k = false → (h k).length ≤ id → id < (h (k + 1)).length → ν id = none
  sep : ∀ i j N K, i ≠ j → (curB ops h s S i).2.isOwn = true → (curB ops h s S j).2.live = true → ν i = some N → ν j = some K → N.g ≠ K.g
  len : m ≤ (h 0).length
  same : ∀ id, id < m → ν id = ν0 id
  os : w.os = w0.os
  tape : w.tape = w0.tape
  output : w.output = w0.output
  size : w0.heap.size ≤ w.heap.size
  frame : ∀ g, g < w0.heap.size → (∀ id N, id < m → (id ∈ wx ∨ ∃ k, k < ops.size ∧ S k = true ∧ id ∈ (s k).wr) → ν0 id = some N → N.g ≠ g) → w.heap[g]? = w0.heap[g]?
  fresh : ∀ id N, m ≤ id → (curB ops h s S id).2.live = true → ν id = some N → w0.heap.size ≤ N.g ∨ ∃ j K, j < m ∧ (j ∈ wx ∨ ∃ k, k < ops.size ∧ S k = true ∧ j ∈ (s k).wr) ∧ ν0 j = some K ∧ K.g = N.g
theorem cur_none {α : Type} {g : Nat → α} {hit : Nat → Bool} (h : ∀ k, hit k = false) : ∀ n, cur g hit n = (0, g 0)
  | 0 => rfl
  | n + 1 => by
    unfold cur
    rw [if_neg (by rw [h]; simp)]
    exact cur_none h n
theorem Stand.init {ops : Array Oper} {f : Nat → Fr} {h : Nat → Hp} {s : Nat → Step} {w0 : World} {ν0 : Nu} {m : Nat} {wx : List Nat} {ν : Nu} {tmps : Array Value} {w : World}
    (hmono : ∀ k, k ≤ ops.size → (h 0).length ≤ (h k).length) (hi : Inv P w0 ν0 m ν (h 0) wx w) (hf : FrRel ν (f 0) tmps) : Stand P ops f h s w0 ν0 m wx (fun _ => false) ν tmps w := by
  have eT : ∀ t, curT ops f (fun _ => false) t = (0, (f 0).get t) := fun t => cur_none (fun _ => by simp) _
  have eB : ∀ id, curB ops h s (fun _ => false) id = (0, (h 0).getD id .dead) := fun id => cur_none (fun _ => by simp) _
  have hle : Le ν (below ν (h 0).length) := fun id N hN => by
    rcases Nat.lt_or_ge id (h 0).length with c | c
    · rw [below_in c]; exact hN
    · rw [hi.rep.dom id c] at hN; cases hN
  refine ⟨hf.1, fun t v hv => ?_, fun id => ?_, fun id hid => hi.rep.dom id (Nat.le_trans (hmono _ (Nat.le_refl _)) hid), fun k id hk _ hid _ => hi.rep.dom id (Nat.le_trans (hmono k (Nat.le_of_lt hk)) hid), fun i j N K hij h1 h2 => ?_, hi.len, hi.same, hi.os, hi.tape, hi.output, hi.size, fun g hg hfr => hi.frame g hg fun id N hid hw hN => hfr id N hid (.inl hw) hN, fun id N hid hl hN => ?_⟩
  · rw [eT] at hv ⊢
    obtain ⟨v', h1, h2⟩ := hf.2 t v hv
    exact ⟨v', h1, h2.le hle⟩
  · rw [eB]
    exact (hi.rep.blk id).up hle
  · rw [eB] at h1 h2
    exact hi.rep.sep i j N K hij h1 h2
  · rw [eB] at hl
    rcases hi.fresh id N hid hl hN with k | ⟨j, K, k1, k2, k3⟩
    · exact .inl k
    · exact .inr ⟨j, K, k1, .inl k2, k3⟩
theorem Stand.final {ops : Array Oper} {f : Nat → Fr} {h : Nat → Hp} {s : Nat → Step} {w0 : World} {ν0 : Nu} {m : Nat} {wx wr : List Nat} {S : Nat → Bool} {ν : Nu} {tmps : Array Value} {w : World}
    (hmono : (h 0).length ≤ (h ops.size).length) (hflen : (f ops.size).n = (f 0).n) (hS : ∀ k, k < ops.size → S k = true) (hwr : ∀ id, id ∈ wr ↔ ∃ k, k < ops.size ∧ id ∈ (s k).wr)
    (hgT : ∀ t k, k < ops.size → touchT ops t k = false → (f (k + 1)).get t = (f k).get t) (hgB : ∀ id k, k < ops.size → touchB s id k = false → (h (k + 1)).getD id .dead = (h k).getD id .dead)
    (st : Stand P ops f h s w0 ν0 m wx S ν tmps w) : Inv P w0 ν0 m ν (h ops.size) (wr ++ wx) w ∧ FrRel ν (f ops.size) tmps := by
  have eT : ∀ t, (curT ops f S t).2 = (f ops.size).get t := fun t => (cur_at (i := ops.size) (n := ops.size) (g := fun k => (f k).get t) (fun k hk ht => hgT t k hk ht) (Nat.le_refl _) (fun k hk _ => hS k hk) (fun k h1 h2 _ => by omega)).2
  have eB : ∀ id, (curB ops h s S id).2 = (h ops.size).getD id .dead := fun id => (cur_at (i := ops.size) (n := ops.size) (g := fun k => (h k).getD id .dead) (fun k hk ht => hgB id k hk ht) (Nat.le_refl _) (fun k hk _ => hS k hk) (fun k h1 h2 _ => by omega)).2
  have hw : ∀ id, (id ∈ wx ∨ ∃ k, k < ops.size ∧ S k = true ∧ id ∈ (s k).wr) → id ∈ wr ++ wx := fun id hid => by
    rcases hid with hid | ⟨k, k1, _, k3⟩
    · simp [hid]
    · exact List.mem_append.2 (.inl ((hwr id).2 ⟨k, k1, k3⟩))
  refine ⟨⟨⟨st.over, fun id => ?_, fun i j N K hij h1 h2 => ?_⟩, Nat.le_trans st.len hmono, st.same, st.os, st.tape, st.output, st.size, fun g hg hfr => st.frame g hg fun id N hid hw' hN => hfr id N hid (hw id hw') hN, fun id N hid hl hN => ?_⟩, hflen.trans st.tlen, fun t v hv => ?_⟩
  · have := (st.blk id).up below_le
    rw [eB] at this
    exact this
  · rw [← eB] at h1 h2
    exact st.sep i j N K hij h1 h2
  · rw [← eB] at hl
    rcases st.fresh id N hid hl hN with k | ⟨j, K, k1, k2, k3⟩
    · exact .inl k
    · exact .inr ⟨j, K, k1, hw j k2, k3⟩
  · rw [← eT] at hv
    obtain ⟨v', h1, h2⟩ := st.tmp t v hv
    exact ⟨v', h1, h2.le below_le⟩
end
end Go.Proofs.Ytjalkjeldlchoaa.Ex
namespace Go.Proofs.Ytjalkjeldlchoaa.Ex
open Go
set_option linter.unusedVariables false
set_option linter.unusedSimpArgs false
section
variable {P : Program} {all : Array Oper} {o : Oper} {fr fr' : Fr} {hp hp' : Hp} {s : Step}
theorem putT_len (d : Option Tmp) (v : Value) : (putT fr d v).n = fr.n := by
  cases d with
  | none => rfl
  | some d => exact Fr.set_n _ _ _
theorem putT_ne {d : Option Tmp} {v : Value} {t : Nat} (h : d ≠ some t) : (putT fr d v).get t = fr.get t := by
  cases d with
  | none => rfl
  | some d => exact Fr.get_ne _ _ (fun c => h (by rw [c]))
theorem OneStep.flen (h : OneStep P all o fr hp fr' hp' s) : fr'.n = fr.n := by
  rcases h with ⟨_, r, _, rfl, _⟩ | ⟨_, rfl, _⟩ <;> exact putT_len _ _
theorem OneStep.mono (h : OneStep P all o fr hp fr' hp' s) : hp.length ≤ hp'.length := by
  rcases h with ⟨_, r, hr, _, rfl, _⟩ | ⟨_, _, rfl, _⟩
  · exact hr.1.len
  · exact Nat.le_refl _
theorem OneStep.tmp (h : OneStep P all o fr hp fr' hp' s) {t : Nat} (ht : o.dst ≠ some t) : fr'.get t = fr.get t := by
  rcases h with ⟨_, r, _, rfl, _⟩ | ⟨_, rfl, _⟩ <;> exact putT_ne ht
theorem OneStep.blk (h : OneStep P all o fr hp fr' hp' s) {id : Nat} (hi : hits s id = false) : hp'.getD id .dead = hp.getD id .dead := by
  rcases h with ⟨_, r, hr, _, rfl, rfl⟩ | ⟨_, _, rfl, _⟩
  · simp only [hits, Bool.or_eq_false_iff, Bool.and_eq_false_iff, decide_eq_false_iff_not] at hi
    obtain ⟨h1, h2⟩ := hi
    have h1' : ¬ id ∈ r.wr := by simpa using h1
    rcases Nat.lt_or_ge id hp.length with c | c
    · exact hr.1.keep id c h1'
    · rcases h2 with h2 | h2
      · exact absurd c h2
      · rw [getD_out c, getD_out (by omega)]
  · rfl
theorem busy_mem : ∀ (n : Nat) (st : List Step) (i : Nat) (s : Step), st[i]? = some s → idle s = false → (n + i, s) ∈ busy n st
  | _, [], i, s, h, _ => by simp at h
  | n, x :: r, i, s, h, hs => by
    unfold busy
    cases i with
    | zero =>
      simp only [List.getElem?_cons_zero, Option.some.injEq] at h
      subst h
      rw [hs, if_neg Bool.false_ne_true]
      exact List.mem_cons_self
    | succ i =>
      have := busy_mem (n + 1) r i s (by simpa using h) hs
      have e : n + 1 + i = n + (i + 1) := by omega
      rw [e] at this
      split
      · exact this
      · exact List.mem_cons_of_mem _ this
theorem idle_clash {s t : Step} (h : idle s = true ∨ idle t = true) : clash s t = false := by
  have key : ∀ {s t : Step}, idle s = true → clash s t = false := by
    intro s t h
    unfold idle at h
    simp only [Bool.and_eq_true, List.isEmpty_iff, decide_eq_true_eq] at h
    have hh : ∀ b, hits s b = false := fun b => by
      unfold hits
      rw [h.1.2]
      simp only [List.contains_nil, Bool.false_or, Bool.and_eq_false_iff, decide_eq_false_iff_not]
      omega
    unfold clash
    rw [h.1.1, h.1.2]
    simp [hh]
  rcases h with h | h
  · exact key h
  · have := key (t := s) h
    unfold clash at this ⊢
    simp only [Bool.or_eq_false_iff] at this ⊢
    exact ⟨⟨⟨this.1.2, this.2⟩, this.1.1.1⟩, this.1.1.2⟩
theorem calm_spec {ops : Array Oper} {st : List Step} (hS : calmS ops = true) (h : calm ops st = true) :
    (∀ (j : Nat) (o : Oper) (e : Edge), ops[j]? = some o → e ∈ o.after.toList → Region.binds .any e = true → e.on < j) ∧
    ∀ i j, i < j → j < ops.size → ((Region.before ops).getD j 0).testBit i = true ∨
      (clash (st.getD i ⟨[], [], 0, 0⟩) (st.getD j ⟨[], [], 0, 0⟩) = false ∧ Oper.apart ops (ops.getD i default) (ops.getD j default) = true) := by
  unfold calmS at hS
  have h' := List.all_eq_true.1 hS
  refine ⟨fun j o e ho he hb => ?_, fun i j hij hj => ?_⟩
  · have hj : j < ops.size := by
      rcases Nat.lt_or_ge j ops.size with c | c
      · exact c
      · rw [Array.getElem?_eq_none c] at ho; cases ho
    have hk := h' j (List.mem_range.2 hj)
    rw [Bool.and_eq_true] at hk
    have hd : ops.getD j default = o := by rw [Array.getD_eq_getD_getElem?, ho]; rfl
    rw [hd] at hk
    have := List.all_eq_true.1 hk.1 e he
    rw [hb] at this
    simpa using this
  · have hk := h' j (List.mem_range.2 hj)
    rw [Bool.and_eq_true] at hk
    have hq := List.all_eq_true.1 hk.2 i (List.mem_range.2 hij)
    rw [Bool.or_eq_true] at hq
    rcases hq with hq | h2
    · exact .inl hq
    · cases hc : clash (st.getD i ⟨[], [], 0, 0⟩) (st.getD j ⟨[], [], 0, 0⟩) with
      | false => exact .inr ⟨rfl, h2⟩
      | true =>
        have nd : idle (st.getD i ⟨[], [], 0, 0⟩) = false ∧ idle (st.getD j ⟨[], [], 0, 0⟩) = false := by
          constructor <;> rw [Bool.eq_false_iff] <;> intro c
          · rw [idle_clash (.inl c)] at hc; cases hc
          · rw [idle_clash (.inr c)] at hc; cases hc
        have get : ∀ k, idle (st.getD k ⟨[], [], 0, 0⟩) = false → (k, st.getD k ⟨[], [], 0, 0⟩) ∈ busy 0 st := fun k hk => by
          have := busy_mem 0 st k (st.getD k ⟨[], [], 0, 0⟩) (by
            rw [List.getD_eq_getElem?_getD] at hk ⊢
            cases hv : st[k]? with
            | none => rw [hv] at hk; simp [idle] at hk
            | some s => rfl) hk
          rwa [Nat.zero_add] at this
        unfold calm at h
        have h1 := List.all_eq_true.1 (List.all_eq_true.1 h _ (get j nd.2)) _ (get i nd.1)
        simp only [hc, hij, decide_true, Bool.not_true, Bool.false_or] at h1
        exact .inl h1
end
end Go.Proofs.Ytjalkjeldlchoaa.Ex
namespace Go.Proofs.Ytjalkjeldlchoaa.Ex
open Go
set_option linter.unusedVariables false
set_option linter.unusedSimpArgs false
theorem ready_spec {ops : Array Oper} {listed : Array Bool} {i : Nat} : i ∈ Region.ready .any ops listed ↔
    i < ops.size ∧ listed.getD i true = false ∧ ∃ o, ops[i]? = some o ∧ ∀ e, e ∈ o.after.toList → Region.binds .any e = true → listed.getD e.on false = true := by
  unfold Region.ready
  rw [List.mem_filter, List.mem_range]
  constructor
  · rintro ⟨h1, h2⟩
    rw [Bool.and_eq_true] at h2
    refine ⟨h1, by simpa using h2.1, ops[i], by simp [h1], fun e he hb => ?_⟩
    have h3 := h2.2
    rw [Array.getElem?_eq_getElem h1] at h3
    simp only [Option.map_some, Option.getD_some] at h3
    have := Array.all_eq_true'.1 h3 e (by simpa using he)
    simpa [hb] using this
  · rintro ⟨h1, h2, o, h3, h4⟩
    refine ⟨h1, ?_⟩
    rw [h2, h3]
    simp only [Option.map_some, Option.getD_some, Bool.not_false, Bool.true_and]
    refine Array.all_eq_true'.2 fun e he => ?_
    cases hb : Region.binds .any e with
    | false => rfl
    | true => rw [h4 e (by simpa using he) hb]; rfl
theorem ready_nil {ops : Array Oper} {listed : Array Bool} (hl : listed.size = ops.size) (he : ∀ (j : Nat) (o : Oper) (e : Edge), ops[j]? = some o → e ∈ o.after.toList → Region.binds .any e = true → e.on < j) (h : Region.ready .any ops listed = []) :
    ∀ k, k < ops.size → listed.getD k true = true := by
  intro k
  induction k using Nat.strongRecOn with
  | _ k ih =>
    intro hk
    cases hv : listed.getD k true with
    | true => rfl
    | false =>
      have : k ∈ Region.ready .any ops listed := ready_spec.2 ⟨hk, hv, ops[k], by simp [hk], fun e hm hb => by
        have hlt := he k ops[k] e (by simp [hk]) hm hb
        have := ih e.on hlt (by omega)
        rw [Array.getD_eq_getD_getElem?, Array.getElem?_eq_getElem (by omega)] at this ⊢
        exact this⟩
      rw [h] at this
      cases this
end Go.Proofs.Ytjalkjeldlchoaa.Ex
namespace Go.Proofs.Ytjalkjeldlchoaa.Ex
open Go
set_option linter.unusedVariables false
set_option linter.unusedSimpArgs false
section
variable {P : Program}
/-- The setting: the run in the order of the text, what is calm, and a done-set with one more operation. -/
structure Next (P : Program) (ops : Array Oper) (f : Nat → Fr) (h : Nat → Hp) (s : Nat → Step) (S : Nat → Bool) (i : Nat) (o : Oper) (r : Res) : Prop where
  lt : i < ops.size
  op : ops[i]? = some o
  notyet : S i = false
  before : ∀ k, k < i → S k = false → clash (s k) (s i) = false ∧ Oper.apart ops (ops.getD k default) o = true
  after : ∀ k, i < k → k < ops.size → S k = true → clash (s i) (s k) = false ∧ Oper.apart ops o (ops.getD k default) = true
  mono : ∀ j k, j ≤ k → k ≤ ops.size → (h j).length ≤ (h k).length
  rng : ∀ k, k < ops.size → (s k).lo = (h k).length ∧ (s k).hi = (h (k + 1)).length
  tmpk : ∀ t k, k < ops.size → touchT ops t k = false → (f (k + 1)).get t = (f k).get t
  blkk : ∀ id k, k < ops.size → touchB s id k = false → (h (k + 1)).getD id .dead = (h k).getD id .dead
  flen : (f i).n = (f 0).n
  fr : f (i + 1) = putT (f i) o.dst r.v
  hp : h (i + 1) = r.hp
  wr : (s i).wr = r.wr
  shape : Shape (s i).rd (h i) r
variable {ops : Array Oper} {f : Nat → Fr} {h : Nat → Hp} {s : Nat → Step} {S : Nat → Bool} {i : Nat} {o : Oper} {r : Res}
theorem clash_rd {s t : Step} (h : clash s t = false) {b : Nat} : (b ∈ t.rd → hits s b = false) ∧ (b ∈ t.wr → hits s b = false) ∧ (b ∈ s.rd → hits t b = false) ∧ (b ∈ s.wr → hits t b = false) := by
  unfold clash at h
  simp only [Bool.or_eq_false_iff] at h
  obtain ⟨⟨⟨h1, h2⟩, h3⟩, h4⟩ := h
  exact ⟨fun hb => by simpa using List.any_eq_false.1 h1 b hb, fun hb => by simpa using List.any_eq_false.1 h2 b hb, fun hb => by simpa using List.any_eq_false.1 h3 b hb, fun hb => by simpa using List.any_eq_false.1 h4 b hb⟩
theorem Next.tmp (N : Next P ops f h s S i o r) {t : Nat} (ht : t ∈ o.looksAt ops) : (curT ops f S t).1 ≤ i ∧ (curT ops f S t).2 = (f i).get t := by
  have hd : ∀ k, touchT ops t k = true → (ops.getD k default).dst = some t := fun k hk => by
    unfold touchT at hk
    cases hx : ops[k]? with
    | none => rw [hx] at hk; simp at hk
    | some x =>
      rw [hx] at hk
      rw [Array.getD_eq_getD_getElem?, hx]
      cases hy : x.dst with
      | none => simp [hy] at hk
      | some d => simp [hy] at hk; subst hk; exact hy
  refine cur_at (g := fun k => (f k).get t) (fun k hk hT => N.tmpk t k hk hT) (Nat.le_of_lt N.lt) (fun k hk hT => ?_) fun k hk hkn hT => ?_
  · cases hS : S k with
    | true => rfl
    | false => exact absurd ht ((Oper.apart_spec (N.before k hk hS).2).1 t (hd k hT))
  · cases hS : S k with
    | false => rfl
    | true =>
      by_cases e : k = i
      · rw [e, N.notyet] at hS; cases hS
      · exact absurd ht ((Oper.apart_spec (N.after k (by omega) hkn hS).2).2.2 t (hd k hT))
theorem Next.blk (N : Next P ops f h s S i o r) {b : Nat} (hb : b ∈ (s i).rd) : (curB ops h s S b).1 ≤ i ∧ (curB ops h s S b).2 = (h i).getD b .dead := by
  refine cur_at (g := fun k => (h k).getD b .dead) (fun k hk hT => N.blkk b k hk hT) (Nat.le_of_lt N.lt) (fun k hk hT => ?_) fun k hk hkn hT => ?_
  · cases hS : S k with
    | true => rfl
    | false =>
      have := (clash_rd (N.before k hk hS).1).1 hb
      unfold touchB at hT
      rw [this] at hT; cases hT
  · cases hS : S k with
    | false => rfl
    | true =>
      by_cases e : k = i
      · rw [e, N.notyet] at hS; cases hS
      · have := (clash_rd (N.after k (by omega) hkn hS).1 (b := b)).2.2.1 hb
        unfold touchB at hT
        rw [this] at hT; cases hT
def more (S : Nat → Bool) (i : Nat) : Nat → Bool := fun k => S k || k == i
theorem more_ne {k : Nat} (h : k ≠ i) : more S i k = S k := by simp [more, h]
theorem Next.touchT_i (N : Next P ops f h s S i o r) {t : Nat} : touchT ops t i = true ↔ o.dst = some t := by
  unfold touchT
  rw [N.op]
  cases hd : o.dst with
  | none => simp [hd]
  | some d => simp [hd]
theorem Next.tmp_other (N : Next P ops f h s S i o r) {t : Nat} (ht : o.dst ≠ some t) : curT ops f (more S i) t = curT ops f S t :=
  cur_other (i := i) (fun k hk => more_ne hk) (by
    cases hx : touchT ops t i with
    | false => rfl
    | true => exact absurd (N.touchT_i.1 hx) ht) _
theorem Next.tmp_done (N : Next P ops f h s S i o r) {t : Nat} (ht : o.dst = some t) : curT ops f (more S i) t = (i + 1, (f (i + 1)).get t) := by
  refine cur_done (g := fun k => (f k).get t) (S := S) N.lt (by simp [more]) (N.touchT_i.2 ht) fun k hk hkn hT => ?_
  rw [more_ne (by omega)]
  cases hS : S k with
  | false => rfl
  | true =>
    have := (Oper.apart_spec (N.after k hk hkn hS).2).2.1 t ht
    unfold touchT at hT
    cases hx : ops[k]? with
    | none => rw [hx] at hT; simp at hT
    | some x =>
      rw [hx] at hT
      rw [Array.getD_eq_getD_getElem?, hx] at this
      cases hy : x.dst with
      | none => simp [hy] at hT
      | some d => simp [hy] at hT; subst hT; exact absurd hy this
theorem Next.blk_other (N : Next P ops f h s S i o r) {b : Nat} (hb : hits (s i) b = false) : curB ops h s (more S i) b = curB ops h s S b :=
  cur_other (i := i) (fun k hk => more_ne hk) hb _
theorem Next.blk_done (N : Next P ops f h s S i o r) {b : Nat} (hb : hits (s i) b = true) : curB ops h s (more S i) b = (i + 1, (h (i + 1)).getD b .dead) := by
  refine cur_done (g := fun k => (h k).getD b .dead) (S := S) N.lt (by simp [more]) hb fun k hk hkn hT => ?_
  rw [more_ne (by omega)]
  cases hS : S k with
  | false => rfl
  | true =>
    have hc := clash_rd (N.after k hk hkn hS).1 (b := b)
    unfold touchB at hT
    have hb' := hb
    unfold hits at hb hT
    simp only [Bool.or_eq_true, Bool.and_eq_true, decide_eq_true_eq] at hb hT
    rcases hb with hb | hb
    · have := hc.2.2.2 (by simpa using hb)
      unfold hits at this
      simp only [Bool.or_eq_false_iff, Bool.and_eq_false_iff, decide_eq_false_iff_not] at this
      rcases hT with hT | hT
      · rw [hT] at this; cases this.1
      · rcases this.2 with q | q
        · exact absurd hT.1 q
        · exact absurd hT.2 q
    · rcases hT with hT | hT
      · have := hc.2.1 (by simpa using hT)
        rw [hb'] at this; cases this
      · have h1 := (N.rng i N.lt).2
        have h2 := (N.rng k hkn).1
        have h3 := N.mono (i + 1) k hk (Nat.le_of_lt hkn)
        omega
end
end Go.Proofs.Ytjalkjeldlchoaa.Ex
namespace Go.Proofs.Ytjalkjeldlchoaa.Ex
open Go
set_option linter.unusedVariables false
set_option linter.unusedSimpArgs false
section
variable {P : Program} {ops : Array Oper} {f : Nat → Fr} {h : Nat → Hp} {s : Nat → Step} {S : Nat → Bool} {i : Nat} {o : Oper} {r : Res} {w0 : World} {ν0 ν : Nu} {m : Nat} {wx : List Nat} {tmps : Array Value} {w : World}
theorem Next.seen (N : Next P ops f h s S i o r) (st : Stand P ops f h s w0 ν0 m wx S ν tmps w) : Seen ops (below ν (h i).length) (f i) tmps o := fun d v hd hv => by
  obtain ⟨h1, h2⟩ := N.tmp hd
  obtain ⟨v', h3, h4⟩ := st.tmp d v (h2.trans hv)
  exact ⟨v', h3, h4.le (below_mono (N.mono _ _ h1 (Nat.le_of_lt N.lt)))⟩
theorem Next.pre (N : Next P ops f h s S i o r) (st : Stand P ops f h s w0 ν0 m wx S ν tmps w) : Pre P (s i).rd (below ν (h i).length) (h i) w := by
  refine ⟨fun id hid => below_out hid, fun id hid => ?_, fun a b A B hab ha hb hoa hlb hA hB => ?_⟩
  · obtain ⟨h1, h2⟩ := N.blk hid
    have := st.blk id
    rw [h2] at this
    exact this.up (below_mono (N.mono _ _ h1 (Nat.le_of_lt N.lt)))
  · rw [← (N.blk ha).2] at hoa
    rw [← (N.blk hb).2] at hlb
    exact st.sep a b A B hab hoa hlb (below_le _ _ hA) (below_le _ _ hB)
end
end Go.Proofs.Ytjalkjeldlchoaa.Ex
namespace Go.Proofs.Ytjalkjeldlchoaa.Ex
open Go
set_option linter.unusedVariables false
set_option linter.unusedSimpArgs false
section
variable {P : Program} {ops : Array Oper} {f : Nat → Fr} {h : Nat → Hp} {s : Nat → Step} {S : Nat → Bool} {i : Nat} {o : Oper} {r : Res} {w0 : World} {ν0 ν : Nu} {m : Nat} {wx : List Nat} {a : Act} {w : World}
def joined (ν ν1 : Nu) (l k : Nat) : Nu := fun id => if l ≤ id ∧ id < k then ν1 id else ν id
theorem Stand.step (N : Next P ops f h s S i o r) (st : Stand P ops f h s w0 ν0 m wx S ν a.tmps w) {ν1 : Nu} {v' : Value} {w' : World}
    (p : Post P (s i).rd (below ν (h i).length) (h i) w r ν1 w') (hv : VR ν1 r.v v') : Stand P ops f h s w0 ν0 m wx (more S i) (joined ν ν1 (h i).length (h (i + 1)).length) (a.put o.dst v').tmps w' := by
  have hLL : (h i).length ≤ (h (i + 1)).length := N.mono i (i + 1) (by omega) N.lt
  have h0L : (h 0).length ≤ (h i).length := N.mono 0 i (by omega) (Nat.le_of_lt N.lt)
  have jin : ∀ id, (h i).length ≤ id → id < (h (i + 1)).length → joined ν ν1 (h i).length (h (i + 1)).length id = ν1 id := fun id h1 h2 => if_pos ⟨h1, h2⟩
  have jout : ∀ id, ¬ ((h i).length ≤ id ∧ id < (h (i + 1)).length) → joined ν ν1 (h i).length (h (i + 1)).length id = ν id := fun id h1 => if_neg h1
  have e1 : below (joined ν ν1 (h i).length (h (i + 1)).length) (h (i + 1)).length = ν1 := by
    funext id
    rcases Nat.lt_or_ge id (h (i + 1)).length with c | c
    · rw [below_in c]
      rcases Nat.lt_or_ge id (h i).length with d | d
      · rw [jout id (by omega), p.same id d, below_in d]
      · exact jin id d c
    · rw [below_out c, p.dom id (by rw [← N.hp]; exact c)]
  have le : Le ν (joined ν ν1 (h i).length (h (i + 1)).length) := fun id M hM => by
    by_cases c : (h i).length ≤ id ∧ id < (h (i + 1)).length
    · rw [st.made i id N.lt N.notyet c.1 c.2] at hM; cases hM
    · rw [jout id c]; exact hM
  have leb : ∀ n, Le (below ν n) (below (joined ν ν1 (h i).length (h (i + 1)).length) n) := fun n id M hM => by
    unfold below at hM ⊢
    split at hM
    · rw [if_pos (by assumption)]; exact le id M hM
    · cases hM
  have hitq : ∀ id, hits (s i) id = true ↔ (id ∈ r.wr ∨ ((h i).length ≤ id ∧ id < (h (i + 1)).length)) := fun id => by
    unfold hits
    rw [N.wr, (N.rng i N.lt).1, (N.rng i N.lt).2]
    simp
  have hitn : ∀ id, hits (s i) id = false → ¬ id ∈ r.wr ∧ ¬ ((h i).length ≤ id ∧ id < (h (i + 1)).length) := fun id hid => by
    refine ⟨fun c => ?_, fun c => ?_⟩
    · rw [(hitq id).2 (.inl c)] at hid; cases hid
    · rw [(hitq id).2 (.inr c)] at hid; cases hid
  -- a written block, before
  have wown : ∀ j, j ∈ r.wr → (curB ops h s S j).2.isOwn = true ∧ j < (h i).length := fun j hj => by
    have hjF := (N.shape.wr j hj)
    rw [(N.blk hjF.1).2]
    exact ⟨N.shape.own j hj, hjF.2⟩
  have lt : ∀ id M, (curB ops h s S id).2.live = true → ν id = some M → below ν (h (curB ops h s S id).1).length id = some M → M.g < w.heap.size := fun id M hl _ hM => (st.blk id).lt hl hM
  have named : ∀ id M, (curB ops h s S id).2.live = true → ν id = some M → M.g < w.heap.size := fun id M hl hM => by
    have hb := st.blk id
    have : ∃ K, below ν (h (curB ops h s S id).1).length id = some K := by
      cases hk : (curB ops h s S id).2 with
      | dead => rw [hk] at hl; cases hl
      | own e cs => rw [hk] at hb; obtain ⟨g, cur, lo, hi, q, _⟩ := hb; exact ⟨_, q⟩
      | ro e cs => rw [hk] at hb; obtain ⟨K, q, _⟩ := hb; exact ⟨_, q⟩
    obtain ⟨K, hK⟩ := this
    have := below_le _ _ hK
    rw [hM] at this
    cases this
    exact hb.lt hl hK
  have bdone : ∀ id, hits (s i) id = true → (curB ops h s (more S i) id) = (i + 1, r.hp.getD id .dead) := fun id hid => by rw [N.blk_done hid, N.hp]
  have hitF : ∀ id, hits (s i) id = true → id ∈ (s i).rd ∨ (h i).length ≤ id := fun id hid => ((hitq id).1 hid).imp (fun c => (N.shape.wr id c).1) (fun c => c.1)
  have jhit : ∀ id, hits (s i) id = true → joined ν ν1 (h i).length (h (i + 1)).length id = ν1 id := fun id hid => by
    rcases (hitq id).1 hid with c | c
    · have := (wown id c).2
      rw [jout id (by omega), p.same id this, below_in this]
    · exact jin id c.1 c.2
  have cross : ∀ x y M K, hits (s i) x = true → hits (s i) y = false → (r.hp.getD x .dead).live = true → (curB ops h s S y).2.live = true → ν1 x = some M → ν y = some K → M.g ≠ K.g := fun x y M K hx hy hxl hyl hM hK => by
    rcases (hitq x).1 hx with c | c
    · have hw := wown x c
      rw [p.same x hw.2, below_in hw.2] at hM
      exact st.sep x y M K (fun e => (hitn y hy).1 (e ▸ c)) hw.1 hyl hM hK
    · rcases p.fresh x M c.1 hxl hM with q | ⟨j, J, q1, q2, q3⟩
      · have := named y K hyl hK
        omega
      · rw [← q3]
        exact st.sep j y J K (fun e => (hitn y hy).1 (e ▸ q1)) (wown j q1).1 hyl (below_le _ _ q2) hK
  refine ⟨by cases hd : o.dst <;> simp [Act.put, st.tlen], fun t v ht => ?_, fun id => ?_, fun id hid => ?_, fun k id hk hSk h1 h2 => ?_, fun x y M K hxy hox hly hM hK => ?_, st.len, fun id hid => ?_, p.os.trans st.os, p.tape.trans st.tape, p.output.trans st.output, Nat.le_trans st.size p.size, fun g hg hfr => ?_, fun id M hid hl hM => ?_⟩
  · by_cases hd : o.dst = some t
    · rw [N.tmp_done hd] at ht ⊢
      simp only [N.fr, hd, putT] at ht
      obtain ⟨hlt, ht⟩ := Fr.get_set _ ht
      cases ht
      refine ⟨v', ?_, by rw [e1]; exact hv⟩
      have : t < a.tmps.size := by rw [← st.tlen, ← N.flen]; exact hlt
      simp [Act.put, hd, this]
    · rw [N.tmp_other hd] at ht ⊢
      obtain ⟨u', h1, h2⟩ := st.tmp t v ht
      refine ⟨u', ?_, h2.le (leb _)⟩
      cases hx : o.dst with
      | none => exact h1
      | some d =>
        have hne : d ≠ t := fun e => hd (by rw [hx, e])
        simp only [Act.put]
        rw [Array.getElem?_setIfInBounds_ne hne]
        exact h1
  · cases hh : hits (s i) id with
    | true =>
      rw [bdone id hh, e1]
      exact p.blk id (hitF id hh)
    | false =>
      rw [N.blk_other hh]
      refine (st.blk id).le (leb _) (fun M hM hl => p.frame M.g ((st.blk id).lt hl hM) fun j J hj hJ => ?_) p.size
      exact st.sep j id J M (fun e => (hitn id hh).1 (e ▸ hj)) (wown j hj).1 hl (below_le _ _ hJ) (below_le _ _ hM)
  · have := N.mono (i + 1) ops.size N.lt (Nat.le_refl _)
    rw [jout id (by omega)]
    exact st.over id hid
  · have hki : k ≠ i := fun e => by rw [e] at hSk; simp [more] at hSk
    rw [more_ne hki] at hSk
    rw [jout id (fun c => by
      rcases Nat.lt_or_ge k i with d | d
      · have := N.mono (k + 1) i d (Nat.le_of_lt N.lt); omega
      · have := N.mono (i + 1) k (by omega) (Nat.le_of_lt hk); omega)]
    exact st.made k id hk hSk h1 h2
  · cases hx : hits (s i) x with
    | true =>
      rw [jhit x hx] at hM
      rw [bdone x hx] at hox
      cases hy : hits (s i) y with
      | true =>
        rw [jhit y hy] at hK
        rw [bdone y hy] at hly
        exact p.sep x y M K hxy (hitF x hx) (hitF y hy) hox hly hM hK
      | false =>
        rw [N.blk_other hy] at hly
        rw [jout y (hitn y hy).2] at hK
        exact cross x y M K hx hy (own_live hox) hly hM hK
    | false =>
      rw [N.blk_other hx] at hox
      rw [jout x (hitn x hx).2] at hM
      cases hy : hits (s i) y with
      | true =>
        rw [jhit y hy] at hK
        rw [bdone y hy] at hly
        exact fun e => cross y x K M hy hx hly (own_live hox) hK hM e.symm
      | false =>
        rw [N.blk_other hy] at hly
        rw [jout y (hitn y hy).2] at hK
        exact st.sep x y M K hxy hox hly hM hK
  · have := st.len
    rw [jout id (by omega)]
    exact st.same id hid
  · have up : ∀ j, (j ∈ wx ∨ ∃ k, k < ops.size ∧ S k = true ∧ j ∈ (s k).wr) → (j ∈ wx ∨ ∃ k, k < ops.size ∧ more S i k = true ∧ j ∈ (s k).wr) := fun j hj => hj.imp (fun x => x) fun ⟨k, k1, k2, k3⟩ => ⟨k, k1, by simp [more, k2], k3⟩
    have h1 := st.frame g hg fun id M hid hw hM => hfr id M hid (up id hw) hM
    rw [← h1]
    refine p.frame g (Nat.lt_of_lt_of_le hg st.size) fun j J hj hJ => ?_
    have hJ' := below_le _ _ hJ
    rcases Nat.lt_or_ge j m with c | c
    · rw [st.same j c] at hJ'
      exact hfr j J c (.inr ⟨i, N.lt, by simp [more], by rw [N.wr]; exact hj⟩) hJ'
    · rcases st.fresh j J c (own_live (wown j hj).1) hJ' with q | ⟨k, K, q1, q2, q3, q4⟩
      · omega
      · rw [← q4]
        exact hfr k K q1 (up k q2) q3
  · have up : ∀ j, (j ∈ wx ∨ ∃ k, k < ops.size ∧ S k = true ∧ j ∈ (s k).wr) → (j ∈ wx ∨ ∃ k, k < ops.size ∧ more S i k = true ∧ j ∈ (s k).wr) := fun j hj => hj.imp (fun x => x) fun ⟨k, k1, k2, k3⟩ => ⟨k, k1, by simp [more, k2], k3⟩
    have old : ∀ id M, m ≤ id → (curB ops h s S id).2.live = true → ν id = some M → w0.heap.size ≤ M.g ∨ ∃ j K, j < m ∧ (j ∈ wx ∨ ∃ k, k < ops.size ∧ more S i k = true ∧ j ∈ (s k).wr) ∧ ν0 j = some K ∧ K.g = M.g := fun id M hid hl hM =>
      (st.fresh id M hid hl hM).imp (fun x => x) fun ⟨j, K, q1, q2, q3⟩ => ⟨j, K, q1, up j q2, q3⟩
    cases hh : hits (s i) id with
    | false =>
      rw [N.blk_other hh] at hl
      rw [jout id (hitn id hh).2] at hM
      exact old id M hid hl hM
    | true =>
      rw [jhit id hh] at hM
      rw [bdone id hh] at hl
      rcases (hitq id).1 hh with c | c
      · have hw := wown id c
        rw [p.same id hw.2, below_in hw.2] at hM
        exact old id M hid (own_live hw.1) hM
      · rcases p.fresh id M c.1 hl hM with q | ⟨j, J, q1, q2, q3⟩
        · exact .inl (Nat.le_trans st.size q)
        · have hJ' := below_le _ _ q2
          rcases Nat.lt_or_ge j m with d | d
          · rw [st.same j d] at hJ'
            exact .inr ⟨j, J, d, .inr ⟨i, N.lt, by simp [more], by rw [N.wr]; exact q1⟩, hJ', q3⟩
          · rw [← q3]
            exact old j J d (own_live (wown j q1).1) hJ'
end
end Go.Proofs.Ytjalkjeldlchoaa.Ex
namespace Go.Proofs.Ytjalkjeldlchoaa.Ex
open Go
set_option linter.unusedVariables false
set_option linter.unusedSimpArgs false
section
variable {P : Program} {ops : Array Oper}
theorem more_set {listed : Array Bool} {i : Nat} (hi : i < listed.size) : (fun k => (listed.setIfInBounds i true).getD k false) = more (fun k => listed.getD k false) i := by
  funext k
  show (listed.setIfInBounds i true).getD k false = (listed.getD k false || k == i)
  rw [Array.getD_eq_getD_getElem?, Array.getD_eq_getD_getElem?, Array.getElem?_setIfInBounds]
  by_cases c : i = k
  · subst c; simp [hi]
  · rw [if_neg c]
    have : (k == i) = false := by simpa using fun e => c e.symm
    simp [this]
/-- The run in the order of the text, and what is calm. -/
structure Text (P : Program) (ops : Array Oper) (f : Nat → Fr) (h : Nat → Hp) (s : Nat → Step) : Prop where
  one : ∀ (k : Nat) (o : Oper), ops[k]? = some o → OneStep P ops o (f k) (h k) (f (k + 1)) (h (k + 1)) (s k)
  back : ∀ (j : Nat) (o : Oper) (e : Edge), ops[j]? = some o → e ∈ o.after.toList → Region.binds .any e = true → e.on < j
  calm : ∀ i j, i < j → j < ops.size → ((Region.before ops).getD j 0).testBit i = true ∨ (clash (s i) (s j) = false ∧ Oper.apart ops (ops.getD i default) (ops.getD j default) = true)
variable {f : Nat → Fr} {h : Nat → Hp} {s : Nat → Step}
theorem Text.at (T : Text P ops f h s) {k : Nat} (hk : k < ops.size) : OneStep P ops (ops.getD k default) (f k) (h k) (f (k + 1)) (h (k + 1)) (s k) :=
  T.one k _ (by rw [Array.getD_eq_getD_getElem?, Array.getElem?_eq_getElem hk]; rfl)
theorem Text.mono (T : Text P ops f h s) : ∀ j k, j ≤ k → k ≤ ops.size → (h j).length ≤ (h k).length
  | j, 0, hj, _ => by obtain rfl : j = 0 := by omega
                      exact Nat.le_refl _
  | j, k + 1, hj, hk => by
    by_cases c : j = k + 1
    · rw [c]; exact Nat.le_refl _
    · exact Nat.le_trans (T.mono j k (by omega) (by omega)) (T.at (by omega)).mono
theorem Text.flen (T : Text P ops f h s) : ∀ k, k ≤ ops.size → (f k).n = (f 0).n
  | 0, _ => rfl
  | k + 1, hk => (T.at (by omega)).flen.trans (T.flen k (by omega))
theorem OneStep.rng {o : Oper} {fr fr' : Fr} {hp hp' : Hp} {st : Step} {all : Array Oper} (q : OneStep P all o fr hp fr' hp' st) : st.lo = hp.length ∧ st.hi = hp'.length := by
  rcases q with ⟨_, r, _, _, rfl, rfl⟩ | ⟨_, _, rfl, rfl⟩ <;> exact ⟨rfl, rfl⟩
theorem touchT_not {t k : Nat} (hk : k < ops.size) (h : touchT ops t k = false) : (ops.getD k default).dst ≠ some t := by
  intro e
  unfold touchT at h
  rw [Array.getD_eq_getD_getElem?, Array.getElem?_eq_getElem hk] at e
  rw [Array.getElem?_eq_getElem hk] at h
  simp only [Option.getD_some] at e
  simp [e] at h
theorem Text.next (T : Text P ops f h s) {S : Nat → Bool} {i : Nat} {o : Oper} {r : Res} (hi : i < ops.size) (ho : ops[i]? = some o) (hS : S i = false)
    (hcl : ∀ j k, j < ops.size → S j = true → ((Region.before ops).getD j 0).testBit k = true → S k = true) (hrd : ∀ k, ((Region.before ops).getD i 0).testBit k = true → S k = true)
    (hfr : f (i + 1) = putT (f i) o.dst r.v) (hhp : h (i + 1) = r.hp) (hwr : (s i).wr = r.wr) (hsh : Shape (s i).rd (h i) r) : Next P ops f h s S i o r where
  lt := hi
  op := ho
  notyet := hS
  before := fun k hk hSk => by
    rcases T.calm k i hk hi with c | c
    · rw [hrd k c] at hSk; cases hSk
    · have : ops.getD i default = o := by rw [Array.getD_eq_getD_getElem?, ho]; rfl
      rw [this] at c
      exact c
  after := fun k hk hkn hSk => by
    rcases T.calm i k hk hkn with c | c
    · rw [hcl k i hkn hSk c] at hS; cases hS
    · have : ops.getD i default = o := by rw [Array.getD_eq_getD_getElem?, ho]; rfl
      rw [this] at c
      exact c
  mono := T.mono
  rng := fun k hk => (T.at hk).rng
  tmpk := fun t k hk ht => (T.at hk).tmp (touchT_not hk ht)
  blkk := fun id k hk hid => (T.at hk).blk hid
  flen := T.flen i (Nat.le_of_lt hi)
  fr := hfr
  hp := hhp
  wr := hwr
  shape := hsh
end
end Go.Proofs.Ytjalkjeldlchoaa.Ex
namespace Go.Proofs.Ytjalkjeldlchoaa.Ex
open Go
set_option linter.unusedVariables false
set_option linter.unusedSimpArgs false
section
variable {P : Program} {ops : Array Oper} {f : Nat → Fr} {h : Nat → Hp} {s : Nat → Step} {w0 : World} {ν0 : Nu} {m : Nat} {wx : List Nat}
def don (listed : Array Bool) : Nat → Bool := fun k => listed.getD k false
theorem Text.op (T : Text P ops f h s) {listed : Array Bool} {i : Nat} (hl : listed.size = ops.size) (hcl : ∀ (j : Nat) (o : Oper) (e : Edge), don listed j = true → ops[j]? = some o → e ∈ o.after.toList → Region.binds .any e = true → don listed e.on = true)
    (hi : i ∈ Region.ready .any ops listed) {ν : Nu} {a : Act} {w : World} (st : Stand P ops f h s w0 ν0 m wx (don listed) ν a.tmps w) {Q : Exit → Act → World → Prop} {K : Act → World → Prop}
    (hK : ∀ ν' a' w', Stand P ops f h s w0 ν0 m wx (don (listed.setIfInBounds i true)) ν' a'.tmps w' → a'.defers = a.defers → K a' w') : wpOp P ops Q i K a w := by
  obtain ⟨hin, hno, o, ho, hed⟩ := ready_spec.1 hi
  have hS : don listed i = false := by
    unfold don
    rw [Array.getD_eq_getD_getElem?, Array.getElem?_eq_getElem (by omega)] at hno ⊢
    exact hno
  have cl := before_closed (ops := ops) (S := fun k => don listed k = true) (fun j o e h1 h2 h3 h4 => hcl j o e h1 h2 h3 h4)
  have hrd : ∀ k, ((Region.before ops).getD i 0).testBit k = true → don listed k = true := fun k hb => by
    obtain ⟨o', e, q1, q2, q3, q4⟩ := before_edge hb
    rw [ho] at q1
    cases q1
    have he : don listed e.on = true := hed e q2 q3
    rcases q4 with rfl | ⟨_, q⟩
    · exact he
    · exact cl e.on k he q
  have hm : don (listed.setIfInBounds i true) = more (don listed) i := more_set (by omega)
  unfold wpOp
  rw [ho]
  dsimp only
  rcases T.one i o ho with ⟨hw, r, hr, e1, e2, e3⟩ | ⟨hw, e1, e2, e3⟩
  · have N : Next P ops f h s (don listed) i o r := T.next hin ho hS (fun j k _ h1 h2 => cl j k h1 h2) hrd e1 e2 (by rw [e3]) (by rw [e3]; exact hr.1)
    rw [if_pos (hw _ _ (N.seen st))]
    refine .inl (hr.2 _ a w (N.seen st).env (by have := N.pre st; rw [e3] at this; exact this) _ _ fun ν1 v' w' p hv => ?_)
    have q := Stand.step N st (by rw [e3]; exact p) hv
    rw [← hm] at q
    exact hK _ _ _ q put_defers
  · have N : Next P ops f h s (don listed) i o ⟨undef, h i, []⟩ := T.next hin ho hS (fun j k _ h1 h2 => cl j k h1 h2) hrd e1 e2 (by rw [e3]) (by rw [e3]; exact Shape.same _)
    rw [if_neg (by rw [hw _ _ (N.seen st)]; simp)]
    have q := Stand.step N st (v' := undef) (Post.refl_ (N.pre st) undef) ⟨#[], rfl, .nil⟩
    rw [← hm] at q
    exact hK _ _ _ q put_defers
end
end Go.Proofs.Ytjalkjeldlchoaa.Ex
namespace Go.Proofs.Ytjalkjeldlchoaa.Ex
open Go
set_option linter.unusedVariables false
set_option linter.unusedSimpArgs false
section
variable {P : Program} {ops : Array Oper} {f : Nat → Fr} {h : Nat → Hp} {s : Nat → Step} {w0 : World} {ν0 : Nu} {m : Nat} {wx : List Nat}
def rest (listed : Array Bool) : Nat := (listed.toList.filter fun b => !b).length
theorem rest_set : ∀ (l : List Bool) (i : Nat), l[i]? = some false → ((l.set i true).filter fun b => !b).length + 1 = (l.filter fun b => !b).length
  | [], i, h => by simp at h
  | x :: l, 0, h => by simp at h; subst h; simp
  | x :: l, i + 1, h => by
    have := rest_set l i (by simpa using h)
    cases x <;> simp at this ⊢ <;> omega
theorem Text.any (T : Text P ops f h s) {Q : Exit → Act → World → Prop} {d : List Deferred}
    (hQ : ∀ S ν (a : Act) w, (∀ k, k < ops.size → S k = true) → Stand P ops f h s w0 ν0 m wx S ν a.tmps w → a.defers = d → Q .normal a w) :
    ∀ (n : Nat) (listed : Array Bool) (ν : Nu) (a : Act) (w : World), rest listed = n → listed.size = ops.size →
      (∀ (j : Nat) (o : Oper) (e : Edge), don listed j = true → ops[j]? = some o → e ∈ o.after.toList → Region.binds .any e = true → don listed e.on = true) →
      Stand P ops f h s w0 ν0 m wx (don listed) ν a.tmps w → a.defers = d → wpAny P .any ops Q n listed a w := by
  have fin : ∀ (listed : Array Bool) (ν : Nu) (a : Act) (w : World), listed.size = ops.size → Stand P ops f h s w0 ν0 m wx (don listed) ν a.tmps w → a.defers = d → Region.ready .any ops listed = [] → Q .normal a w :=
    fun listed ν a w hl st hd hr => hQ _ ν a w (fun k hk => by
      have := ready_nil hl T.back hr k hk
      unfold don
      rw [Array.getD_eq_getD_getElem?, Array.getElem?_eq_getElem (by omega)] at this ⊢
      exact this) st hd
  intro n
  induction n with
  | zero =>
    intro listed ν a w hn hl hcl st hd
    have hr : Region.ready .any ops listed = [] := by
      cases hx : Region.ready .any ops listed with
      | nil => rfl
      | cons i r =>
        obtain ⟨h1, h2, _⟩ := ready_spec.1 (by rw [hx]; simp : i ∈ Region.ready .any ops listed)
        rw [Array.getD_eq_getD_getElem?, Array.getElem?_eq_getElem (by omega)] at h2
        have := rest_set listed.toList i (by rw [Array.getElem?_toList, Array.getElem?_eq_getElem (by omega)]; simpa using h2)
        unfold rest at hn
        omega
    exact ⟨hr, fin listed ν a w hl st hd hr⟩
  | succ n ih =>
    intro listed ν a w hn hl hcl st hd
    refine ⟨fin listed ν a w hl st hd, fun i hi => T.op hl hcl hi st fun ν' a' w' st' hd' => ih _ ν' a' w' ?_ (by simpa using hl) ?_ st' (hd'.trans hd)⟩
    · obtain ⟨h1, h2, _⟩ := ready_spec.1 hi
      rw [Array.getD_eq_getD_getElem?, Array.getElem?_eq_getElem (by omega)] at h2
      have := rest_set listed.toList i (by rw [Array.getElem?_toList, Array.getElem?_eq_getElem (by omega)]; simpa using h2)
      unfold rest at hn ⊢
      rw [Array.toList_setIfInBounds]
      omega
    · obtain ⟨h1, _, o, ho, hed⟩ := ready_spec.1 hi
      have hm : don (listed.setIfInBounds i true) = more (don listed) i := more_set (by omega)
      intro j o' e hj ho' he hb
      rw [hm] at hj ⊢
      unfold more at hj ⊢
      rw [Bool.or_eq_true] at hj ⊢
      rcases hj with hj | hj
      · exact .inl (hcl j o' e hj ho' he hb)
      · have : j = i := by simpa using hj
        subst this
        rw [ho] at ho'
        cases ho'
        exact .inl (hed e he hb)
theorem drawn_sat {call : CallF} (hN : Named P) (hm : P.follows .mixedOrders = true) (hcall : Sound P call) : Drawn P call := by
  intro id m ops fr hp hcs
  refine Sat.bind (seqs_sat hN hcall ops.toList fr hp [] []) fun r hr => Sat.bind_chk fun hc => Sat.ret _ ?_
  obtain ⟨f, h, s, e1, e2, e3, e4, e5, e6, e7⟩ := hr
  subst e1
  subst e2
  intro w0 ν0 ν wx a w Q hi hfr hQ
  rw [e7] at hc
  obtain ⟨hb, hcl⟩ := calm_spec hcs hc
  have hst : ∀ k, k < ops.size → (([] : List Step).reverse ++ (List.range ops.toList.length).map s).getD k ⟨[], [], 0, 0⟩ = s k := fun k hk => by
    simp [List.getD_eq_getElem?_getD, List.getElem?_range, hk]
  have T : Text P ops f h s := ⟨fun k o ho => e3 k o (by simpa using ho), hb, fun i j hij hj => by
    have := hcl i j hij hj
    rw [hst i (by omega), hst j hj] at this
    exact this⟩
  have hn : ops.toList.length = ops.size := by simp
  rw [hn] at e4 e5 e6
  have hi' : Inv P w0 ν0 m ν (h 0) wx { w with drawn := w.drawn + 1 } := ⟨⟨hi.rep.dom, fun id => (hi.rep.blk id).le (Le.refl _) (fun _ _ _ => rfl) (Nat.le_refl _), hi.rep.sep⟩, hi.len, hi.same, hi.os, hi.tape, hi.output, hi.size, hi.frame, hi.fresh⟩
  have hdon : don (Array.replicate ops.size false) = fun _ => false := by
    funext k
    unfold don
    rw [Array.getD_eq_getD_getElem?, Array.getElem?_replicate]
    split <;> rfl
  have hst0 := Stand.init (ops := ops) (s := s) (fun k hk => T.mono 0 k (Nat.zero_le _) hk) hi' hfr
  rw [← hdon] at hst0
  refine wp_region_any hm (T.any (m := m) (wx := wx) (w0 := w0) (ν0 := ν0) (d := a.defers) (fun S ν' a' w' hS st hd => ?_) ops.size (Array.replicate ops.size false) ν a _ ?_ (by simp) (fun j o e hj => by rw [hdon] at hj; cases hj) hst0 rfl)
  · obtain ⟨k1, k2⟩ := Stand.final (wr := r.2.2.1) (T.mono 0 ops.size (Nat.zero_le _) (Nat.le_refl _)) (T.flen ops.size (Nat.le_refl _)) hS (fun id => by rw [e6]; simp) (fun t k hk ht => (T.at hk).tmp (touchT_not hk ht)) (fun id k hk hid => (T.at hk).blk hid) st
    rw [e5] at k1
    rw [e4] at k2
    exact hQ ν' a' w' k1 k2 hd
  · unfold rest
    simp
end
end Go.Proofs.Ytjalkjeldlchoaa.Ex
namespace Go.Proofs.Ytjalkjeldlchoaa.Ex
open Go
theorem exec_ok {P : Program} (hN : Named P) (hC : Calm P) (hm : P.follows .mixedOrders = true) (n : Nat) (g : FuncId) (args : List Value) (hp : Hp) : Sat (exec P n g args hp) (CallSpec P g args hp) :=
  exec_sat hN hC (fun _ hS => drawn_sat hN hm hS) n g args hp
theorem run_ok {P : Program} (hN : Named P) (hC : Calm P) (hm : P.follows .mixedOrders = true) (k m n : Nat) (c : Code) (fr : Fr) (hp : Hp) (hc : calmC c = true) : Sat (run P (callA P (toldA P (exec P k))) m n c fr hp) (CodeSpec P m c fr hp) := by
  have told : ∀ g args hp, Sat (toldA P (exec P k) g args hp) (CallSpec P g args hp) := by
    intro g args hp o r he hg
    unfold toldA at he
    split at he
    · cases he
      exact hg.2 _ (by simp)
    · cases he
    · exact exec_ok hN hC hm k g args hp _ _ he hg
    · exact exec_ok hN hC hm k g args hp _ _ he hg
  have hS : Sound P (callA P (toldA P (exec P k))) := fun F g args hp hF => call_sat (fun args hp => told g args hp) hF
  exact run_sat hN hS (drawn_sat hN hm hS) c fr hp hc
theorem go_ok {α : Type} {x : M α} {R : α → Prop} (hx : Sat x R) {orc : Orcs} {a : α} {owe : List Prop} (h : go x orc = some (a, true, owe)) (ho : ∀ p, p ∈ owe → p) : R a := by
  unfold go at h
  cases hr : x orc with
  | none => rw [hr] at h; cases h
  | some r =>
    rw [hr] at h
    simp only [Option.bind_some] at h
    split at h
    · simp only [Option.some.injEq, Prod.mk.injEq] at h
      obtain ⟨h1, h2, h3⟩ := h
      subst h1
      exact hx orc r hr ⟨h2, fun p hp => ho p (by rw [← h3]; exact hp)⟩
    · cases h
end Go.Proofs.Ytjalkjeldlchoaa.Ex
namespace Go.Proofs.Ytjalkjeldlchoaa.Ex
open Go
set_option linter.unusedVariables false
section
variable {P : Program} {fr : Fr} {hp : Hp} {m : Nat} {c : Code}
theorem CodeSpec.tidy_out {keep : List Nat} {o o2 : Out} (hs : CodeSpec P m c fr hp o) (h : tidy P m keep o = some o2) : CodeSpec P m c fr hp o2 :=
  fun w0 ν0 ν wr a w Q hi hfr hQ => hs w0 ν0 ν wr a w Q hi hfr fun ν' a' w' k1 k2 k3 => by
    obtain ⟨e1, e2, h3⟩ := tidy_inv h
    obtain ⟨ν2, h1, h2⟩ := h3 k1 k2
    rw [← e1]
    refine hQ ν2 a' w' (h1.wrs fun j hj hm => ?_) h2 k3
    rw [e2]
    simp only [List.mem_append, List.mem_filter, decide_eq_true_eq] at hj ⊢
    exact hj.imp (fun h => ⟨h, hm⟩) id
theorem CodeSpec.wrs {e : Xt} {fr' : Fr} {hp' : Hp} {wr wr' : List Nat} (hs : CodeSpec P m c fr hp ⟨e, fr', hp', wr⟩) (h : ∀ j, j ∈ wr → j < m → j ∈ wr') : CodeSpec P m c fr hp ⟨e, fr', hp', wr'⟩ :=
  fun w0 ν0 ν wx a w Q hi hfr hQ => hs w0 ν0 ν wx a w Q hi hfr fun ν' a' w' k1 k2 k3 => hQ ν' a' w' (k1.wrs fun j hj hm => by
    simp only [List.mem_append] at hj ⊢
    exact hj.imp (fun hj => h j hj hm) id) k2 k3
def LoopSpec (P : Program) (m : Nat) (c : Code) (fr : Fr) (hp : Hp) (o : Out) : Prop :=
  ∃ n, ∀ w0 ν0 ν wr (a : Act) w (Q : Exit → Act → World → Prop), Inv P w0 ν0 m ν hp wr w → FrRel ν fr a.tmps →
    (∀ ν' (a' : Act) w', Inv P w0 ν0 m ν' o.hp (o.wr ++ wr) w' → FrRel ν' o.fr a'.tmps → a'.defers = a.defers → Q o.ex.of a' w') → Code.rounds P c Q n a w
theorem LoopSpec.code {o : Out} (h : LoopSpec P m c fr hp o) : CodeSpec P m (.loop c) fr hp o :=
  let ⟨n, h⟩ := h
  fun w0 ν0 ν wx a w Q hi hfr hQ => wp_loop_rounds n (h w0 ν0 ν wx a w Q hi hfr hQ)
theorem LoopSpec.more {o1 o : Out} (h1 : CodeSpec P m c fr hp o1) (he : o1.ex = .normal) (h2 : LoopSpec P m c o1.fr o1.hp o) (hw : ∀ j, j ∈ o1.wr → j < m → j ∈ o.wr) : LoopSpec P m c fr hp o := by
  obtain ⟨n, h2⟩ := h2
  refine ⟨n + 1, fun w0 ν0 ν wx a w Q hi hfr hQ => ?_⟩
  rw [rounds_succ]
  refine h1 w0 ν0 ν wx a w _ hi hfr fun ν' a' w' k1 k2 k3 => ?_
  rw [he]
  refine h2 w0 ν0 ν' (o1.wr ++ wx) a' w' Q k1 k2 fun ν2 a2 w2 q1 q2 q3 => hQ ν2 a2 w2 (q1.wrs fun j hj hm => ?_) q2 (q3.trans k3)
  simp only [List.mem_append] at hj ⊢
  rcases hj with h | h | h
  · exact .inl h
  · exact .inl (hw j h hm)
  · exact .inr h
theorem LoopSpec.last {o : Out} (h1 : CodeSpec P m c fr hp o) (he : o.ex ≠ .normal) : LoopSpec P m c fr hp o := by
  refine ⟨1, fun w0 ν0 ν wx a w Q hi hfr hQ => ?_⟩
  rw [rounds_succ]
  refine h1 w0 ν0 ν wx a w _ hi hfr fun ν' a' w' k1 k2 k3 => ?_
  have := hQ ν' a' w' k1 k2 k3
  revert this
  cases hx : o.ex with
  | normal => exact absurd hx he
  | exit j => exact fun h => h
  | ret => exact fun h => h
def body (P : Program) (k m n : Nat) (keep : Xt → List Nat) (c : Code) (fr : Fr) (hp : Hp) : M Out := (run P (callA P (toldA P (exec P k))) m n c fr hp).bind fun o => lift (tidy P m (keep o.ex) o)
theorem body_ok (hN : Named P) (hC : Calm P) (hm : P.follows .mixedOrders = true) (k n : Nat) (keep : Xt → List Nat) (c : Code) (fr : Fr) (hp : Hp) (hc : calmC c = true) : Sat (body P k m n keep c fr hp) (CodeSpec P m c fr hp) :=
  Sat.bind (run_ok hN hC hm k m n c fr hp hc) fun o ho => Sat.lift fun o2 h => ho.tidy_out h
def loopsIn : Code → List Code
  | .seq a b => loopsIn a ++ loopsIn b
  | .cond _ a b => loopsIn a ++ loopsIn b
  | .block _ a => loopsIn a
  | .loop a => a :: loopsIn a
  | _ => []
def loopAt (P : Program) (f : FuncId) (i : Nat) : Code := (((P.funcs[f]?).bind (·.body)).map fun c => (loopsIn c).getD i .skip).getD .skip
theorem loopsIn_calm : ∀ (c : Code), calmC c = true → ∀ l, l ∈ loopsIn c → calmC l = true
  | .seq a b, h, l, hl => by
    simp only [calmC, Bool.and_eq_true] at h
    rcases List.mem_append.1 hl with hl | hl
    · exact loopsIn_calm a h.1 l hl
    · exact loopsIn_calm b h.2 l hl
  | .cond _ a b, h, l, hl => by
    simp only [calmC, Bool.and_eq_true] at h
    rcases List.mem_append.1 hl with hl | hl
    · exact loopsIn_calm a h.1 l hl
    · exact loopsIn_calm b h.2 l hl
  | .block _ a, h, l, hl => loopsIn_calm a h l hl
  | .loop a, h, l, hl => by
    rcases List.mem_cons.1 hl with rfl | hl
    · exact h
    · exact loopsIn_calm a h l hl
  | .skip, _, l, hl | .label _, _, l, hl | .region _ _ _, _, l, hl | .exit _, _, l, hl | .ret, _, l, hl | .rangeFunc _ _ _ _, _, l, hl | .scope _, _, l, hl | .goto _, _, l, hl | .refuse _, _, l, hl => by cases hl
theorem loopAt_calm (hC : Calm P) (f : FuncId) (i : Nat) : calmC (loopAt P f i) = true := by
  unfold loopAt
  cases hf : P.funcs[f]? with
  | none => rfl
  | some fn =>
    cases hb : fn.body with
    | none => simp [hb, calmC]
    | some c =>
      simp only [Option.bind_some, hb, Option.map_some, Option.getD_some]
      rw [List.getD_eq_getElem?_getD]
      cases hl : (loopsIn c)[i]? with
      | none => rfl
      | some l => exact loopsIn_calm c (hC f fn c hf hb) l (List.mem_of_getElem? hl)
def Res.le (a b : Res) : Prop := a.v = b.v ∧ a.hp = b.hp ∧ ∀ j, j ∈ a.wr → j ∈ b.wr
def Out.le (a b : Out) : Prop := a.ex = b.ex ∧ a.fr = b.fr ∧ a.hp = b.hp ∧ ∀ j, j ∈ a.wr → j ∈ b.wr
theorem CallSpec.id {f : FuncId} {args : List Value} {r : Res} (h : CallSpec P f args hp r) : CallSpec P f args hp r := h
theorem CodeSpec.id {o : Out} (h : CodeSpec P m c fr hp o) : CodeSpec P m c fr hp o := h
theorem CallSpec.le {f : FuncId} {args : List Value} {a b : Res} (h : CallSpec P f args hp a) (hl : Res.le a b) : CallSpec P f args hp b := by
  obtain ⟨v, h1, w⟩ := a
  obtain ⟨v', h1', w'⟩ := b
  obtain ⟨rfl, rfl, hw⟩ := hl
  exact fun ν W args' ha hr => (h ν W args' ha hr).mono fun e W' ⟨u, ν', h2, h3, h4⟩ => ⟨u, ν', h2, h3, h4.wrs fun j hj _ => hw j hj⟩
theorem CodeSpec.le {a b : Out} (h : CodeSpec P m c fr hp a) (hl : Out.le a b) : CodeSpec P m c fr hp b := by
  obtain ⟨e, f, h1, w⟩ := a
  obtain ⟨e', f', h1', w'⟩ := b
  obtain ⟨rfl, rfl, rfl, hw⟩ := hl
  exact h.wrs fun j hj _ => hw j hj
def F.bor (k : IntKind) (a b : Int) : Int := k.wrap ((BitVec.ofInt k.bits a ||| BitVec.ofInt k.bits b).toNat : Nat)
theorem inside_of {i : Int} {n : Nat} (h : 0 ≤ i ∧ i < n) : inside i n = true := by
  unfold inside
  rw [decide_eq_true h.1, decide_eq_true h.2]; rfl
theorem upto_of {i : Int} {n : Nat} (h : 0 ≤ i ∧ i ≤ n) : upto i n = true := by
  unfold upto
  rw [decide_eq_true h.1, decide_eq_true h.2]; rfl
theorem all_nil : ∀ p, p ∈ ([] : List Prop) → p := fun _ h => by cases h
theorem all_cons {q : Prop} {l : List Prop} (h : q) (hl : ∀ p, p ∈ l → p) : ∀ p, p ∈ q :: l → p := fun p hp => by
  rcases List.mem_cons.1 hp with rfl | hp
  · exact h
  · exact hl p hp
end
end Go.Proofs.Ytjalkjeldlchoaa.Ex
namespace Go.Proofs.Ytjalkjeldlchoaa.Ex
open Go
theorem tnamed : Named Try.prog := by
  have h : (Try.prog.funcs.toList.all fun fn => !(fn.name == "runtime.NumGoroutine")) = true := by kernel_rfl
  intro g fn hg
  have := List.all_eq_true.1 h fn (Array.mem_toList_iff.2 (Array.mem_of_getElem? hg))
  simpa using this
theorem tmixed : Try.prog.follows .mixedOrders = true := by kernel_rfl
def calmF (fn : Func) : Bool := match fn.body with | some c => calmC c | none => true
theorem tcalm : Calm Try.prog := by
  have h : (Try.prog.funcs.toList.all calmF) = true := by kernel_rfl
  intro g fn c hg hc
  have := List.all_eq_true.1 h fn (Array.mem_toList_iff.2 (Array.mem_of_getElem? hg))
  unfold calmF at this
  rw [hc] at this
  exact this
end Go.Proofs.Ytjalkjeldlchoaa.Ex
end
namespace Go.Proofs.Ytjalkjeldlchoaa.Ex
theorem aN : ∀ p, p ∈ ([] : List Prop) → p := all_nil
theorem aC {q : Prop} {l : List Prop} (h : q) (hl : ∀ p, p ∈ l → p) : ∀ p, p ∈ q :: l → p := all_cons h hl
theorem dTq {p : Prop} [inst : Decidable p] (h : p) : decide p = true := decide_eq_true h
theorem dFq {p : Prop} [inst : Decidable p] (h : ¬ p) : decide p = false := decide_eq_false h
theorem dO {p : Prop} [inst : Decidable p] (h : p := by omega) : decide p = true := decide_eq_true h
theorem dN {p : Prop} [inst : Decidable p] (h : ¬ p := by omega) : decide p = false := decide_eq_false h
abbrev sB (b n c : Nat) : Value := .slice (some ⟨b, 0, none⟩) n c
abbrev sN : Value := .slice none 0 0
abbrev pA (b : Nat) : Value := .pointer (some ⟨b, 0, none⟩)
abbrev a2 (a b : Int) : Value := .agg #[.int .i64 a, .int .i64 b]
abbrev a5 (a b c d e : Int) : Value := .agg #[.int .i64 a, .int .i64 b, .int .i64 c, .int .i64 d, .int .i64 e]
abbrev a6 (a b c d e f : Int) : Value := .agg #[.int .i64 a, .int .i64 b, .int .i64 c, .int .i64 d, .int .i64 e, .int .i64 f]
abbrev l6 (a b c d e f : Int) : List Value := [.int .i64 a, .int .i64 b, .int .i64 c, .int .i64 d, .int .i64 e, .int .i64 f]
theorem bF {b : Bool} (h : ¬ (b = true)) : b = false := Bool.eq_false_iff.2 h
end Go.Proofs.Ytjalkjeldlchoaa.Ex
section
set_option linter.unusedSectionVars false
set_option linter.unusedSimpArgs false
set_option linter.unusedVariables false
namespace Go.Proofs.Ytjalkjeldlchoaa.Ex
open Go Go.ChangeShapes Go.WideShapes Go.ChangeAt Go.RowKit
set_option linter.unusedVariables false
set_option linter.unusedSimpArgs false
theorem sz_mk (a : Array UInt8) : (ByteArray.mk a).size = a.size := rfl
structure OpF {α : Type} (P : Program) (t : TypeId) (f : α → List Value) (n : Nat) (good : α → Prop) : Prop where
  sz : P.cellsOf t = n
  op : ∀ {H : Type} {enc : TypeId × Value → H} {W : World} {held : Bool} {fuel : Nat} {cs : List Value} {x : DataW H × List MemPlace},
    DataW.trod enc P W 0 (fun _ => true) held fuel t cs = some x → (∀ n ∈ x.1.weights P t, n ≤ 140737488351232) → ∃ a, cs = f a ∧ (f a).length = n ∧ good a
section
variable {P : Program} {t e : TypeId} {α β : Type}
theorem OpF.mono {f : α → List Value} {n : Nat} {g g' : α → Prop} (h : OpF P t f n g) (hg : ∀ a, g a → g' a) : OpF P t f n g' := ⟨h.sz, fun h1 h2 => by
  obtain ⟨a, h3, h4, h5⟩ := h.op h1 h2
  exact ⟨a, h3, h4, hg a h5⟩⟩
theorem OpF.iso {f : α → List Value} {n : Nat} {g : α → Prop} (h : OpF P t f n g) (f' : β → List Value) (g' : β → Prop) (hi : ∀ a, g a → (f a).length = n → ∃ b, f a = f' b ∧ g' b) : OpF P t f' n g' := ⟨h.sz, fun h1 h2 => by
  obtain ⟨a, h3, h4, h5⟩ := h.op h1 h2
  obtain ⟨b, k1, k2⟩ := hi a h5 h4
  exact ⟨b, h3.trans k1, k1 ▸ h4, k2⟩⟩
theorem OpF.int {k : IntKind} (hc : P.cellsOf t = 1) (hu : P.underlying t = some (.int k)) : OpF P t (fun a => [.int k a]) 1 (fun a => (Lit.int k a).wf = true) := ⟨hc, fun h _ => by
  obtain ⟨n, rfl, _, hw⟩ := DataW.trod_int hu h
  exact ⟨n, rfl, rfl, hw⟩⟩
theorem OpF.bool (hc : P.cellsOf t = 1) (hu : P.underlying t = some .bool) : OpF P t (fun a => [.bool a]) 1 (fun _ => True) := ⟨hc, fun h _ => by
  obtain ⟨n, rfl, _⟩ := DataW.trod_bool hu h
  exact ⟨n, rfl, rfl, trivial⟩⟩
theorem OpF.string (hc : P.cellsOf t = 1) (hu : P.underlying t = some .string) : OpF P t (fun a => [.string a]) 1 (fun s => s.size ≤ 140737488351232) := ⟨hc, fun h hw => by
  obtain ⟨s, rfl, rfl, _⟩ := DataW.trod_string hu h
  have := hw s.data.toList.length (by simp [DataW.weights])
  exact ⟨s, rfl, rfl, by simpa using this⟩⟩
/-- The fields of a struct, from one on. -/
structure OpFs {α : Type} (P : Program) (fs : List Field) (off : Nat) (f : α → List Value) (n : Nat) (good : α → Prop) : Prop where
  op : ∀ {H : Type} {enc : TypeId × Value → H} {W : World} {held : Bool} {m : Nat} {cs : List Value} {xs : List (DataW H × List MemPlace)},
    cs.length = off + n → xs.length = fs.length → (∀ (i : Nat) g, fs[i]? = some g → DataW.trod enc P W 0 (fun _ => true) held m g.type ((cs.drop g.offset).take (P.cellsOf g.type)) = xs[i]?) →
    (∀ m ∈ DataW.weightsEach P (fs.map (·.type)) (xs.map (·.1)), m ≤ 140737488351232) → ∃ a, cs.drop off = f a ∧ (f a).length = n ∧ good a
theorem OpFs.one {f : α → List Value} {n : Nat} {good : α → Prop} {g : Field} {off : Nat} (ho : g.offset = off) (h : OpF P g.type f n good) : OpFs P [g] off f n good := ⟨fun {H enc W held m cs xs} hl hx ht hw => by
  match xs, hx with
  | [x0], _ =>
    have h0 := ht 0 g rfl
    rw [ho, h.sz, List.take_of_length_le (by simp; omega)] at h0
    exact h.op h0 (fun m hm => hw m (by simpa [DataW.weightsEach] using hm))⟩
theorem OpFs.cons {f : α → List Value} {f2 : β → List Value} {n n2 : Nat} {g : α → Prop} {g2 : β → Prop} {fd : Field} {fs : List Field} {off : Nat} (ho : fd.offset = off) (h : OpF P fd.type f n g) (hr : OpFs P fs (off + n) f2 n2 g2) :
    OpFs P (fd :: fs) off (fun (a : α × β) => f a.1 ++ f2 a.2) (n + n2) (fun a => g a.1 ∧ g2 a.2) := ⟨fun {H enc W held m cs xs} hl hx ht hw => by
  match xs, hx with
  | x0 :: xs, hx =>
    have h0 := ht 0 fd rfl
    rw [ho, h.sz] at h0
    obtain ⟨a, hK, hla, hg⟩ := h.op h0 (fun m hm => hw m (by simp only [List.map_cons, DataW.weightsEach, List.mem_append]; exact .inl hm))
    obtain ⟨b, hK2, hlb, hg2⟩ := hr.op (W := W) (cs := cs) (xs := xs) (by omega) (by simpa using hx) (fun i f2 hf => ht (i + 1) f2 (by simpa using hf)) (fun m hm => hw m (by simp only [List.map_cons, DataW.weightsEach, List.mem_append]; exact .inr hm))
    refine ⟨(a, b), ?_, by simp [hla, hlb], hg, hg2⟩
    rw [← hK, ← hK2, ← List.drop_drop, List.take_append_drop]⟩
theorem OpF.struct {f : α → List Value} {n : Nat} {good : α → Prop} {fs : Array Field} (hu : P.underlying t = some (.struct fs)) (hc : P.cellsOf t = n) (h : OpFs P fs.toList 0 f n good) : OpF P t f n good := ⟨hc, fun {H enc W held fuel cs x} ht hw => by
  obtain ⟨xs, m, _, rfl, hl, hlen, hf⟩ := DataW.trod_struct hu ht
  have := h.op (W := W) (cs := cs) (xs := xs) (by rw [hl, hc]; simp) (by simpa using hlen) (fun i f hf' => hf i f (by simpa using hf')) (fun m hm => hw m (by simpa [DataW.weights, hu] using hm))
  simpa using this⟩
theorem weights_all {H : Type} {ds : List (DataW H)} {d : DataW H} (h : d ∈ ds) : ∀ n ∈ d.weights P e, n ∈ DataW.weightsAll P e ds := by
  induction ds with
  | nil => cases h
  | cons d0 ds ih =>
    intro n hn
    simp only [DataW.weightsAll, List.mem_append]
    rcases List.mem_cons.1 h with rfl | h
    · exact .inl hn
    · exact .inr (ih h n hn)
theorem rows_of {f : α → List Value} {n : Nat} {good : α → Prop} : ∀ (k : Nat) (get : Nat → List Value), (∀ i, i < k → ∃ a, get i = f a ∧ (f a).length = n ∧ good a) →
    ∃ l : List α, l.length = k ∧ (∀ i, i < k → ∃ a, l[i]? = some a ∧ get i = f a ∧ (f a).length = n) ∧ ∀ a ∈ l, good a
  | 0, get, _ => ⟨[], rfl, fun i hi => by omega, fun a ha => by cases ha⟩
  | k + 1, get, h => by
    obtain ⟨a, h1, h2, h3⟩ := h 0 (by omega)
    obtain ⟨l, k1, k2, k3⟩ := rows_of k (fun i => get (i + 1)) (fun i hi => h (i + 1) (by omega))
    refine ⟨a :: l, by simp [k1], fun i hi => ?_, fun b hb => ?_⟩
    · cases i with
      | zero => exact ⟨a, rfl, h1, h2⟩
      | succ i => simpa using k2 i (by omega)
    · rcases List.mem_cons.1 hb with rfl | hb
      · exact h3
      · exact k3 b hb
theorem flat_len {f : α → List Value} {n : Nat} : ∀ {l : List α}, (∀ a ∈ l, (f a).length = n) → (l.flatMap f).length = l.length * n
  | [], _ => by simp
  | a :: l, h => by
    rw [List.flatMap_cons, List.length_append, h a List.mem_cons_self, flat_len (fun b hb => h b (List.mem_cons_of_mem _ hb)), List.length_cons, Nat.succ_mul]
    omega
theorem flat_get {f : α → List Value} {n : Nat} : ∀ {l : List α}, (∀ a ∈ l, (f a).length = n) → ∀ (i j : Nat) (a : α), l[i]? = some a → j < n → (l.flatMap f)[i * n + j]? = (f a)[j]?
  | [], _, i, j, a, h, _ => by simp at h
  | b :: l, hl, i, j, a, h, hj => by
    have hb := hl b List.mem_cons_self
    rw [List.flatMap_cons]
    cases i with
    | zero =>
      simp only [List.getElem?_cons_zero, Option.some.injEq] at h
      subst h
      rw [Nat.zero_mul, Nat.zero_add, List.getElem?_append_left (by omega)]
    | succ i =>
      have := flat_get (l := l) (fun c hc => hl c (List.mem_cons_of_mem _ hc)) i j a (by simpa using h) hj
      rw [List.getElem?_append_right (by rw [hb, Nat.succ_mul]; omega), ← this]
      congr 1
      rw [hb, Nat.succ_mul]
      omega
theorem OpF.array {f : α → List Value} {n : Nat} {good : α → Prop} (k : Nat) (hu : P.underlying t = some (.array k e)) (hc : P.cellsOf t = k * n) (h : OpF P e f n good) :
    OpF P t (fun l : List α => l.flatMap f) (k * n) (fun l => l.length = k ∧ ∀ a ∈ l, good a) := ⟨hc, fun {H enc W held fuel cs x} ht hw => by
  obtain ⟨xs, m, _, rfl, hl, hlen, hf⟩ := DataW.trod_array hu ht
  rw [hc] at hl
  obtain ⟨l, k1, k2, k3⟩ := rows_of (f := f) (n := n) (good := good) k (fun i => (cs.drop (i * n)).take n) (fun i hi => by
    have h1 := hf i hi
    rw [h.sz] at h1
    obtain ⟨x, hx⟩ : ∃ x, xs[i]? = some x := ⟨xs[i], by simp [hlen, hi]⟩
    rw [hx] at h1
    exact h.op h1 (fun q hq => hw q (by
      simp only [DataW.weights, hu]
      exact weights_all (List.mem_map.2 ⟨x, List.mem_of_getElem? hx, rfl⟩) q hq)))
  have hfl : ∀ a ∈ l, (f a).length = n := fun a ha => by
    obtain ⟨i, hi, rfl⟩ := List.getElem_of_mem ha
    obtain ⟨b, q1, _, q3⟩ := k2 i (by omega)
    rw [List.getElem?_eq_getElem hi] at q1
    cases q1
    exact q3
  have hll : (l.flatMap f).length = k * n := by rw [flat_len hfl, k1]
  refine ⟨l, ?_, hll, k1, k3⟩
  apply List.ext_getElem?
  intro i
  rcases Nat.lt_or_ge i (k * n) with hi | hi
  · have hn : 0 < n := by
      rcases Nat.eq_zero_or_pos n with h0 | h0
      · rw [h0, Nat.mul_zero] at hi; omega
      · exact h0
    have hq : i / n < k := Nat.div_lt_of_lt_mul (by rw [Nat.mul_comm]; exact hi)
    obtain ⟨a, q1, q2, q3⟩ := k2 (i / n) hq
    have hr := Nat.mod_lt i hn
    have e1 : i = i / n * n + i % n := by rw [Nat.mul_comm]; exact (Nat.div_add_mod i n).symm
    have := flat_get hfl (i / n) (i % n) a q1 hr
    rw [← e1] at this
    rw [this, ← q2, List.getElem?_take, if_pos hr, List.getElem?_drop, ← e1]
  · rw [List.getElem?_eq_none (by omega), List.getElem?_eq_none (by omega)]⟩
theorem law_calls {f : FuncId} {args args' : List Value} {hp hp' : Hp} {ν : Nu} {W : World} (h : CallSpec P f args hp ⟨.bool true, hp', []⟩) (ha : L2 (VR ν) args args') (hr : Rep P ν hp W) :
    Calls P f args'.toArray W fun e W' => e = .returned (.bool true) ∧ Below W.heap.size W W' :=
  (h ν W args' ha hr).mono fun e W' ⟨v', ν', he, hv, hi⟩ => by
    have : v' = .bool true := hv
    subst this
    exact ⟨he, hi.os, hi.tape, hi.output, hi.size, fun k hk => hi.frame k hk fun id N _ hid => by cases hid⟩
theorem row_calls {f : FuncId} {A : Array Value} {W : World} (h : ∃ (args' : List Value) (hp hp' : Hp) (ν : Nu) (args0 : List Value), A = args'.toArray ∧ L2 (VR ν) args0 args' ∧ Rep P ν hp W ∧ CallSpec P f args0 hp ⟨.bool true, hp', []⟩) :
    Calls P f A W fun e W' => e = .returned (.bool true) ∧ Below W.heap.size W W' := by
  obtain ⟨args', hp, hp', ν, args0, rfl, ha, hr, hs⟩ := h
  exact law_calls hs ha hr
theorem rep_none (W : World) : Rep P (fun _ => none) [] W := ⟨fun _ _ => rfl, fun id => by cases id <;> trivial, fun i j N K _ hi => by cases i <;> cases hi⟩
end
end Go.Proofs.Ytjalkjeldlchoaa.Ex
end
section
set_option linter.unusedSectionVars false
set_option linter.unusedSimpArgs false
set_option linter.unusedVariables false
namespace Go.Proofs.Ytjalkjeldlchoaa.Ex
open Go Go.RowKit
set_option linter.unusedVariables false
section
variable {P : Program} {f : FuncId} {args : List Value} {hp hp' : Hp} {v : Value}
theorem CallSpec.of_below (hv : flat v = true) (h : ∀ (ν : Nu) (w : World) args', L2 (VR ν) args args' → Rep P ν hp w → Calls P f args'.toArray w fun e w' => e = .returned v ∧ Below w.heap.size w w') : CallSpec P f args hp ⟨v, hp, []⟩ := by
  intro ν w args' ha hr
  refine (h ν w args' ha hr).mono fun e w' ⟨he, hb⟩ => ⟨v, ν, he, (flat_VR hv _).2 rfl, ⟨hr.dom, fun id => ?_, hr.sep⟩, Nat.le_refl _, fun _ _ => rfl, hb.os, hb.tape, hb.output, hb.size, fun g hg _ => hb.block g hg, fun id N hid _ hN => ?_⟩
  · exact (hr.blk id).le (Le.refl _) (fun M hM hl => hb.block M.g ((hr.blk id).lt hl hM)) hb.size
  · rw [hr.dom id hid] at hN; cases hN
theorem CallSpec.below {hp' : Hp} (hv : flat v = true) (h : CallSpec P f args hp ⟨v, hp', []⟩) {ν : Nu} {w : World} {args' : List Value} (ha : L2 (VR ν) args args') (hr : Rep P ν hp w) :
    Calls P f args'.toArray w fun e w' => e = .returned v ∧ Below w.heap.size w w' :=
  (h ν w args' ha hr).mono fun e w' ⟨v', ν', he, hv', hi⟩ => by
    have : v' = v := (flat_VR hv _).1 hv'
    subst this
    exact ⟨he, hi.os, hi.tape, hi.output, hi.size, fun k hk => hi.frame k hk fun id N _ hid => by cases hid⟩
def Softer : Blk → Blk → Prop
  | b, b' => b' = b ∨ ∃ e cs, b = .ro e cs ∧ b' = .own e cs
theorem RepBlk.soft {ν : Nu} {w : World} {id : Nat} {b b' : Blk} (h : Softer b b') (hr : RepBlk P ν w id b') : RepBlk P ν w id b := by
  rcases h with rfl | ⟨e, cs, rfl, rfl⟩
  · exact hr
  · obtain ⟨g, cur, lo, hi, h1, h2, h3, h4, h5⟩ := hr
    refine ⟨_, h1, rfl, (Array.getElem?_eq_some_iff.1 h2).1, _, h5, fun i u hu => ?_⟩
    have hi := (List.getElem?_eq_some_iff.1 hu).1
    rw [List.length_take] at hi
    rw [List.getElem?_take, if_pos (by omega)] at hu
    show w.cell? ⟨g, 0 + i, none⟩ = some u
    rw [Nat.zero_add]
    simp only [World.cell?, h2]
    rw [if_neg (by decide)]
    simp at hu; exact hu
theorem Rep.soft {ν : Nu} {w : World} (hl : hp.length = hp'.length) (h : ∀ id, Softer (hp.getD id .dead) (hp'.getD id .dead)) (hr : Rep P ν hp' w) : Rep P ν hp w where
  dom id hid := hr.dom id (by omega)
  blk id := (hr.blk id).soft (h id)
  sep i j N K hij hi hj := by
    refine hr.sep i j N K hij ?_ ?_
    · rcases h i with e | ⟨e, cs, h1, h2⟩
      · rw [e]; exact hi
      · rw [h2]; rfl
    · rcases h j with e | ⟨e, cs, h1, h2⟩
      · rw [e]; exact hj
      · rw [h2]; rfl
theorem CallSpec.soft (hv : flat v = true) (hl : hp.length = hp'.length) (hs : ∀ id, Softer (hp.getD id .dead) (hp'.getD id .dead)) (h : CallSpec P f args hp ⟨v, hp, []⟩) : CallSpec P f args hp' ⟨v, hp', []⟩ :=
  CallSpec.of_below hv fun ν w args' ha hr => h.below hv ha (Rep.soft hl hs hr)
theorem soft_one {e : TypeId} {cs : List Value} : ∀ id, Softer ([Blk.ro e cs].getD id .dead) ([Blk.own e cs].getD id .dead)
  | 0 => .inr ⟨e, cs, rfl, rfl⟩
  | _ + 1 => .inl rfl
end
end Go.Proofs.Ytjalkjeldlchoaa.Ex
end
section
set_option linter.unusedSectionVars false
set_option linter.unusedSimpArgs false
set_option linter.unusedVariables false
namespace Go.Proofs.Ytjalkjeldlchoaa.X
open Go Go.RowKit
set_option linter.unusedVariables false
set_option linter.unusedSimpArgs false
def crossI (a0 a1 b0 b1 p0 p1 : Int) : Int := (b0 - a0) * (p1 - a1) - (b1 - a1) * (p0 - a0)
theorem crossI_turn (a0 a1 b0 b1 p0 p1 : Int) : crossI b0 b1 p0 p1 a0 a1 = crossI a0 a1 b0 b1 p0 p1 := by
  unfold crossI
  simp only [Int.mul_sub, Int.sub_mul, Int.mul_comm]
  omega
theorem crossI_swap (a0 a1 b0 b1 p0 p1 : Int) : crossI b0 b1 a0 a1 p0 p1 = -crossI a0 a1 b0 b1 p0 p1 := by
  unfold crossI
  simp only [Int.mul_sub, Int.sub_mul, Int.mul_comm]
  omega
theorem noSep {p q r s x y z u : Int} (hp : 0 ≤ p) (hq : 0 ≤ q) (hr : 0 ≤ r) (hs : 0 ≤ s) (h : p + q = r + s) (hpos : 0 < p + q) (e : p * x + q * y = r * z + s * u) : ¬ (x < z ∧ x < u ∧ y < z ∧ y < u) := by
  rintro ⟨h1, h2, h3, h4⟩
  obtain ⟨m, m1, m2, m3, m4⟩ : ∃ m, x ≤ m ∧ y ≤ m ∧ m + 1 ≤ z ∧ m + 1 ≤ u := by
    by_cases c : x ≤ y
    · exact ⟨y, c, Int.le_refl _, by omega, by omega⟩
    · exact ⟨x, Int.le_refl _, by omega, by omega, by omega⟩
  have k1 := Int.mul_le_mul_of_nonneg_left m1 hp
  have k2 := Int.mul_le_mul_of_nonneg_left m2 hq
  have k3 := Int.mul_le_mul_of_nonneg_left m3 hr
  have k4 := Int.mul_le_mul_of_nonneg_left m4 hs
  have k5 : p * m + q * m = r * m + s * m := by rw [← Int.add_mul, ← Int.add_mul, h]
  rw [Int.mul_add] at k3 k4
  omega
def Same (A B : Int) : Prop := A > 0 ∧ B > 0 ∨ A < 0 ∧ B < 0
theorem conv {P Q R T x y z u : Int} (h : P - Q = R - T) (hne : P ≠ Q) (h1 : ¬ Same P Q) (h2 : ¬ Same R T) (e : P * x - Q * y = R * z - T * u) :
    ¬ (x < z ∧ x < u ∧ y < z ∧ y < u) ∧ ¬ (z < x ∧ z < y ∧ u < x ∧ u < y) := by
  unfold Same at h1 h2
  by_cases c : P > Q
  · have e' : P * x + (-Q) * y = R * z + (-T) * u := by rw [Int.neg_mul, Int.neg_mul]; omega
    exact ⟨noSep (by omega) (by omega) (by omega) (by omega) (by omega) (by omega) e', fun hh => noSep (by omega) (by omega) (by omega) (by omega) (by omega) (by omega) e'.symm ⟨hh.1, hh.2.1, hh.2.2.1, hh.2.2.2⟩⟩
  · have e' : (-P) * x + Q * y = (-R) * z + T * u := by rw [Int.neg_mul, Int.neg_mul]; omega
    exact ⟨noSep (by omega) (by omega) (by omega) (by omega) (by omega) (by omega) e', fun hh => noSep (by omega) (by omega) (by omega) (by omega) (by omega) (by omega) e'.symm ⟨hh.1, hh.2.1, hh.2.2.1, hh.2.2.2⟩⟩
theorem cross_sum (a0 a1 b0 b1 c0 c1 d0 d1 : Int) : crossI a0 a1 b0 b1 c0 c1 + crossI c0 c1 d0 d1 a0 a1 = crossI a0 a1 b0 b1 d0 d1 + crossI c0 c1 d0 d1 b0 b1 := by
  unfold crossI
  simp only [Int.mul_sub, Int.sub_mul, Int.mul_comm]
  omega
theorem cross_x (a0 a1 b0 b1 c0 c1 d0 d1 : Int) : crossI c0 c1 d0 d1 a0 a1 * b0 - crossI c0 c1 d0 d1 b0 b1 * a0 = crossI a0 a1 b0 b1 d0 d1 * c0 - crossI a0 a1 b0 b1 c0 c1 * d0 := by
  unfold crossI
  simp only [Int.mul_sub, Int.sub_mul, Int.mul_assoc, Int.mul_comm, Int.mul_left_comm]
  omega
theorem cross_y (a0 a1 b0 b1 c0 c1 d0 d1 : Int) : crossI c0 c1 d0 d1 a0 a1 * b1 - crossI c0 c1 d0 d1 b0 b1 * a1 = crossI a0 a1 b0 b1 d0 d1 * c1 - crossI a0 a1 b0 b1 c0 c1 * d1 := by
  unfold crossI
  simp only [Int.mul_sub, Int.sub_mul, Int.mul_assoc, Int.mul_comm, Int.mul_left_comm]
  omega
theorem cross_back (a0 a1 b0 b1 p0 p1 : Int) : crossI b0 b1 a0 a1 p0 p1 = -crossI a0 a1 b0 b1 p0 p1 := crossI_swap _ _ _ _ _ _
def Btw (a b c : Int) : Prop := (a ≤ c ∧ c ≤ b) ∨ (b ≤ c ∧ c ≤ a)
def Ov (a b c d : Int) : Prop := (c ≤ a ∨ d ≤ a ∨ c ≤ b ∨ d ≤ b) ∧ (a ≤ c ∨ b ≤ c ∨ a ≤ d ∨ b ≤ d)
def OnI (a0 a1 b0 b1 c0 c1 : Int) : Prop := crossI a0 a1 b0 b1 c0 c1 = 0 ∧ Btw a0 b0 c0 ∧ Btw a1 b1 c1
def GeoI (a0 a1 b0 b1 c0 c1 d0 d1 : Int) : Prop :=
  Ov a0 b0 c0 d0 ∧ Ov a1 b1 c1 d1 ∧ ¬ Same (crossI a0 a1 b0 b1 c0 c1) (crossI a0 a1 b0 b1 d0 d1) ∧ ¬ Same (crossI c0 c1 d0 d1 a0 a1) (crossI c0 c1 d0 d1 b0 b1)
def Opp (A B : Int) : Prop := A > 0 ∧ B < 0 ∨ A < 0 ∧ B > 0
def RefI (a0 a1 b0 b1 c0 c1 d0 d1 : Int) : Prop :=
  OnI a0 a1 b0 b1 c0 c1 ∨ OnI a0 a1 b0 b1 d0 d1 ∨ OnI c0 c1 d0 d1 a0 a1 ∨ OnI c0 c1 d0 d1 b0 b1 ∨
  (Opp (crossI a0 a1 b0 b1 c0 c1) (crossI a0 a1 b0 b1 d0 d1) ∧ Opp (crossI c0 c1 d0 d1 a0 a1) (crossI c0 c1 d0 d1 b0 b1))
theorem both_zero {C D u v : Int} (hs : Same C D) (e : C * v = D * u) (h : (u ≤ 0 ∧ 0 ≤ v) ∨ (v ≤ 0 ∧ 0 ≤ u)) : u = 0 ∧ v = 0 := by
  unfold Same at hs
  have key : ∀ C D u v : Int, C > 0 → D > 0 → C * v = D * u → u ≤ 0 → 0 ≤ v → u = 0 ∧ v = 0 := by
    intro C D u v hC hD e hu hv
    have h1 := Int.mul_nonneg (Int.le_of_lt hC) hv
    have h2 := Int.mul_nonneg (Int.le_of_lt hD) (show 0 ≤ -u by omega)
    rw [Int.mul_neg] at h2
    have h3 : C * v = 0 := by omega
    have h4 : D * u = 0 := by omega
    rcases Int.mul_eq_zero.1 h3 with h | h <;> rcases Int.mul_eq_zero.1 h4 with h' | h' <;> omega
  rcases hs with ⟨hC, hD⟩ | ⟨hC, hD⟩
  · rcases h with ⟨h1, h2⟩ | ⟨h1, h2⟩
    · exact key C D u v hC hD e h1 h2
    · exact (key D C v u hD hC e.symm h1 h2).symm
  · have e' : (-C) * v = (-D) * u := by rw [Int.neg_mul, Int.neg_mul, e]
    rcases h with ⟨h1, h2⟩ | ⟨h1, h2⟩
    · exact key (-C) (-D) u v (by omega) (by omega) e' h1 h2
    · exact (key (-D) (-C) v u (by omega) (by omega) e'.symm h1 h2).symm
theorem on_geo {a0 a1 b0 b1 c0 c1 d0 d1 : Int} (h : OnI a0 a1 b0 b1 c0 c1) : GeoI a0 a1 b0 b1 c0 c1 d0 d1 := by
  obtain ⟨hA, hx, hy⟩ := h
  unfold Btw at hx hy
  refine ⟨by unfold Ov; omega, by unfold Ov; omega, fun hs => by unfold Same at hs; omega, fun hs => ?_⟩
  have hsum := cross_sum a0 a1 b0 b1 c0 c1 d0 d1
  have hxx := cross_x a0 a1 b0 b1 c0 c1 d0 d1
  have hyy := cross_y a0 a1 b0 b1 c0 c1 d0 d1
  rw [hA] at hsum hxx hyy
  have hC : crossI c0 c1 d0 d1 a0 a1 = (d0 - c0) * (a1 - c1) - (d1 - c1) * (a0 - c0) := rfl
  generalize crossI c0 c1 d0 d1 a0 a1 = C at *
  generalize crossI c0 c1 d0 d1 b0 b1 = D at *
  generalize crossI a0 a1 b0 b1 d0 d1 = B at *
  obtain rfl : B = C - D := by omega
  rw [Int.sub_mul, Int.zero_mul] at hxx hyy
  have q1 := both_zero hs (u := a0 - c0) (v := b0 - c0) (by rw [Int.mul_sub, Int.mul_sub]; omega) (by omega)
  have q2 := both_zero hs (u := a1 - c1) (v := b1 - c1) (by rw [Int.mul_sub, Int.mul_sub]; omega) (by omega)
  rw [q1.1, q2.1, Int.mul_zero, Int.mul_zero] at hC
  unfold Same at hs
  omega
theorem same_comm {A B : Int} : Same A B ↔ Same B A := by unfold Same; omega
theorem same_neg {A B : Int} : Same (-A) (-B) ↔ Same A B := by unfold Same; omega
theorem geo_swap {a0 a1 b0 b1 c0 c1 d0 d1 : Int} (h : GeoI a0 a1 b0 b1 d0 d1 c0 c1) : GeoI a0 a1 b0 b1 c0 c1 d0 d1 := by
  obtain ⟨h1, h2, h3, h4⟩ := h
  rw [cross_back c0 c1 d0 d1, cross_back c0 c1 d0 d1, same_neg] at h4
  exact ⟨by unfold Ov at *; omega, by unfold Ov at *; omega, fun h => h3 (same_comm.1 h), h4⟩
theorem geo_turn2 {a0 a1 b0 b1 c0 c1 d0 d1 : Int} (h : GeoI c0 c1 d0 d1 a0 a1 b0 b1) : GeoI a0 a1 b0 b1 c0 c1 d0 d1 :=
  ⟨by have := h.1; unfold Ov at *; omega, by have := h.2.1; unfold Ov at *; omega, h.2.2.2, h.2.2.1⟩
theorem ref_geo {a0 a1 b0 b1 c0 c1 d0 d1 : Int} (h : RefI a0 a1 b0 b1 c0 c1 d0 d1) : GeoI a0 a1 b0 b1 c0 c1 d0 d1 := by
  rcases h with h | h | h | h | ⟨h1, h2⟩
  · exact on_geo h
  · exact geo_swap (on_geo h)
  · exact geo_turn2 (on_geo h)
  · exact geo_turn2 (geo_swap (on_geo h))
  · have hsum := cross_sum a0 a1 b0 b1 c0 c1 d0 d1
    have s1 : ¬ Same (crossI a0 a1 b0 b1 c0 c1) (crossI a0 a1 b0 b1 d0 d1) := by unfold Same; unfold Opp at h1; omega
    have s2 : ¬ Same (crossI c0 c1 d0 d1 a0 a1) (crossI c0 c1 d0 d1 b0 b1) := by unfold Same; unfold Opp at h2; omega
    have x := conv (by omega) (by unfold Opp at h2; omega) s2 (fun h => s1 (same_comm.1 h)) (cross_x a0 a1 b0 b1 c0 c1 d0 d1)
    have y := conv (by omega) (by unfold Opp at h2; omega) s2 (fun h => s1 (same_comm.1 h)) (cross_y a0 a1 b0 b1 c0 c1 d0 d1)
    exact ⟨by unfold Ov; omega, by unfold Ov; omega, s1, s2⟩
theorem btw_line {a0 a1 b0 b1 e0 e1 : Int} (h : crossI a0 a1 b0 b1 e0 e1 = 0) (hne : a0 ≠ b0) (hb : Btw a0 b0 e0) : Btw a1 b1 e1 := by
  have e : (e0 - a0) * b1 - (e0 - b0) * a1 = (b0 - a0) * e1 - 0 * e1 := by
    unfold crossI at h
    simp only [Int.mul_sub, Int.sub_mul, Int.mul_comm, Int.zero_mul, Int.mul_zero] at h ⊢
    omega
  unfold Btw at hb
  have := conv (by omega) (by omega) (by unfold Same; omega) (by unfold Same; omega) e
  unfold Btw
  omega
theorem geo_ref {a0 a1 b0 b1 c0 c1 d0 d1 : Int} (h : GeoI a0 a1 b0 b1 c0 c1 d0 d1) : RefI a0 a1 b0 b1 c0 c1 d0 d1 := by
  obtain ⟨ox, oy, s1, s2⟩ := h
  have hsum := cross_sum a0 a1 b0 b1 c0 c1 d0 d1
  have hx := cross_x a0 a1 b0 b1 c0 c1 d0 d1
  have hy := cross_y a0 a1 b0 b1 c0 c1 d0 d1
  have l1 := @btw_line a0 a1 b0 b1 c0 c1
  have l2 := @btw_line a0 a1 b0 b1 d0 d1
  have l3 := @btw_line c0 c1 d0 d1 a0 a1
  have l4 := @btw_line c0 c1 d0 d1 b0 b1
  unfold RefI OnI
  generalize crossI a0 a1 b0 b1 c0 c1 = A at *
  generalize crossI a0 a1 b0 b1 d0 d1 = B at *
  generalize crossI c0 c1 d0 d1 a0 a1 = C at *
  generalize crossI c0 c1 d0 d1 b0 b1 = D at *
  have s1' : ¬ Same B A := fun h => s1 (same_comm.1 h)
  by_cases hne : C = D
  · have z : A = 0 ∧ B = 0 ∧ C = 0 ∧ D = 0 := by unfold Same at s1 s2; omega
    obtain ⟨rfl, rfl, rfl, rfl⟩ := z
    unfold Ov at ox oy
    have hx1 : Btw a0 b0 c0 ∨ Btw a0 b0 d0 ∨ Btw c0 d0 a0 ∨ Btw c0 d0 b0 := by unfold Btw; omega
    have hy1 : Btw a1 b1 c1 ∨ Btw a1 b1 d1 ∨ Btw c1 d1 a1 ∨ Btw c1 d1 b1 := by unfold Btw; omega
    by_cases v1 : a0 = b0
    · by_cases v2 : c0 = d0
      · have t1 : Btw a0 b0 c0 ∧ Btw a0 b0 d0 ∧ Btw c0 d0 a0 ∧ Btw c0 d0 b0 := by unfold Btw at *; omega
        rcases hy1 with h | h | h | h
        · exact .inl ⟨rfl, t1.1, h⟩
        · exact .inr (.inl ⟨rfl, t1.2.1, h⟩)
        · exact .inr (.inr (.inl ⟨rfl, t1.2.2.1, h⟩))
        · exact .inr (.inr (.inr (.inl ⟨rfl, t1.2.2.2, h⟩)))
      · have t : Btw c0 d0 a0 := by unfold Btw at *; omega
        exact .inr (.inr (.inl ⟨rfl, t, l3 rfl v2 t⟩))
    · by_cases v2 : c0 = d0
      · have t : Btw a0 b0 c0 := by unfold Btw at *; omega
        exact .inl ⟨rfl, t, l1 rfl v1 t⟩
      · rcases hx1 with h | h | h | h
        · exact .inl ⟨rfl, h, l1 rfl v1 h⟩
        · exact .inr (.inl ⟨rfl, h, l2 rfl v1 h⟩)
        · exact .inr (.inr (.inl ⟨rfl, h, l3 rfl v2 h⟩))
        · exact .inr (.inr (.inr (.inl ⟨rfl, h, l4 rfl v2 h⟩)))
  · by_cases zA : A = 0
    · subst zA
      have x := conv (u := c0) (by omega) hne s2 s1' (by rw [hx, Int.zero_mul, Int.zero_mul])
      have y := conv (u := c1) (by omega) hne s2 s1' (by rw [hy, Int.zero_mul, Int.zero_mul])
      exact .inl ⟨rfl, by unfold Btw; omega, by unfold Btw; omega⟩
    by_cases zB : B = 0
    · subst zB
      have x := conv (z := d0) (by omega) hne s2 s1' (by rw [hx, Int.zero_mul, Int.zero_mul])
      have y := conv (z := d1) (by omega) hne s2 s1' (by rw [hy, Int.zero_mul, Int.zero_mul])
      exact .inr (.inl ⟨rfl, by unfold Btw; omega, by unfold Btw; omega⟩)
    by_cases zC : C = 0
    · subst zC
      have x := conv (x := a0) (by omega) hne s2 s1' (by rw [← hx, Int.zero_mul, Int.zero_mul])
      have y := conv (x := a1) (by omega) hne s2 s1' (by rw [← hy, Int.zero_mul, Int.zero_mul])
      exact .inr (.inr (.inl ⟨rfl, by unfold Btw; omega, by unfold Btw; omega⟩))
    by_cases zD : D = 0
    · subst zD
      have x := conv (y := b0) (by omega) hne s2 s1' (by rw [← hx, Int.zero_mul, Int.zero_mul])
      have y := conv (y := b1) (by omega) hne s2 s1' (by rw [← hy, Int.zero_mul, Int.zero_mul])
      exact .inr (.inr (.inr (.inl ⟨rfl, by unfold Btw; omega, by unfold Btw; omega⟩)))
    exact .inr (.inr (.inr (.inr ⟨by unfold Opp; unfold Same at s1; omega, by unfold Opp; unfold Same at s2; omega⟩)))
theorem geo_iff_ref (a0 a1 b0 b1 c0 c1 d0 d1 : Int) : GeoI a0 a1 b0 b1 c0 c1 d0 d1 ↔ RefI a0 a1 b0 b1 c0 c1 d0 d1 := ⟨geo_ref, ref_geo⟩
theorem sq_nn (x : Int) : 0 ≤ x * x := by
  by_cases h : 0 ≤ x
  · exact Int.mul_nonneg h h
  · rw [← Int.neg_mul_neg]; exact Int.mul_nonneg (by omega) (by omega)
theorem no_twist {A B C D : Int} (hB : 0 ≤ B) (hC : 0 ≤ C) (e : A * D = C * B) (h1 : B < A) (h2 : C < D) : False := by
  have k1 := Int.mul_lt_mul_of_pos_right h1 (show 0 < D by omega)
  have k2 := Int.mul_le_mul_of_nonneg_left (Int.le_of_lt h2) hB
  rw [Int.mul_comm C B] at e
  omega
theorem part_of {u0 u1 v0 v1 : Int} (hx : u0 * v1 = u1 * v0) (hd : u0 * v0 + u1 * v1 > 0) : (Btw 0 u0 v0 ∧ Btw 0 u1 v1) ∨ (Btw 0 v0 u0 ∧ Btw 0 v1 u1) := by
  have key : ∀ u0 u1 v0 v1 : Int, u0 * v1 = u1 * v0 → 0 ≤ u0 → 0 ≤ v0 → 0 ≤ u1 → 0 ≤ v1 → (v0 ≤ u0 ∧ v1 ≤ u1) ∨ (u0 ≤ v0 ∧ u1 ≤ v1) := by
    intro u0 u1 v0 v1 hx h1 h2 h3 h4
    by_cases a : v0 < u0
    · by_cases b : u1 < v1
      · exact (no_twist (A := u0) (B := v0) (C := u1) (D := v1) h2 h3 hx a b).elim
      · exact .inl ⟨by omega, by omega⟩
    · by_cases b : v1 < u1
      · by_cases c : u0 < v0
        · refine (no_twist (A := v0) (B := u0) (C := v1) (D := u1) h1 h4 ?_ c b).elim
          rw [Int.mul_comm v0, Int.mul_comm v1]
          exact hx.symm
        · exact .inl ⟨by omega, by omega⟩
      · exact .inr ⟨by omega, by omega⟩
  have s0 : ¬ (u0 * v0 < 0) := by
    intro h
    have h' : u1 * v1 > 0 := by omega
    have e : (u0 * v0) * (u1 * v1) = (u0 * v1) * (u0 * v1) := by
      calc (u0 * v0) * (u1 * v1) = (u0 * v1) * (u1 * v0) := by simp only [Int.mul_assoc, Int.mul_comm, Int.mul_left_comm]
        _ = (u0 * v1) * (u0 * v1) := by rw [← hx]
    have n1 := Int.mul_neg_of_neg_of_pos h h'
    have n2 := sq_nn (u0 * v1)
    omega
  have s1 : ¬ (u1 * v1 < 0) := by
    intro h
    have h' : u0 * v0 > 0 := by omega
    have e : (u1 * v1) * (u0 * v0) = (u0 * v1) * (u0 * v1) := by
      calc (u1 * v1) * (u0 * v0) = (u0 * v1) * (u1 * v0) := by simp only [Int.mul_assoc, Int.mul_comm, Int.mul_left_comm]
        _ = (u0 * v1) * (u0 * v1) := by rw [← hx]
    have n1 := Int.mul_neg_of_neg_of_pos h h'
    have n2 := sq_nn (u0 * v1)
    omega
  have same : ∀ x y : Int, ¬ (x * y < 0) → (0 ≤ x ∧ 0 ≤ y) ∨ (x ≤ 0 ∧ y ≤ 0) := by
    intro x y h
    by_cases a : 0 < x
    · by_cases b : y < 0
      · exact absurd (Int.mul_neg_of_pos_of_neg a b) h
      · exact .inl ⟨by omega, by omega⟩
    · by_cases b : x < 0
      · by_cases c : 0 < y
        · exact absurd (Int.mul_neg_of_neg_of_pos b c) h
        · exact .inr ⟨by omega, by omega⟩
      · by_cases c : 0 ≤ y
        · exact .inl ⟨by omega, c⟩
        · exact .inr ⟨by omega, by omega⟩
  unfold Btw
  rcases same u0 v0 s0 with ⟨a, b⟩ | ⟨a, b⟩ <;> rcases same u1 v1 s1 with ⟨c, d⟩ | ⟨c, d⟩
  · have := key u0 u1 v0 v1 hx a b c d
    omega
  · have := key u0 (-u1) v0 (-v1) (by rw [Int.mul_neg, Int.neg_mul, hx]) a b (by omega) (by omega)
    omega
  · have := key (-u0) u1 (-v0) v1 (by rw [Int.neg_mul, Int.mul_neg, hx]) (by omega) (by omega) c d
    omega
  · have := key (-u0) (-u1) (-v0) (-v1) (by rw [Int.neg_mul_neg, Int.neg_mul_neg, hx]) (by omega) (by omega) (by omega) (by omega)
    omega
theorem part_dot {u0 u1 v0 v1 : Int} (hv : ¬ (v0 = 0 ∧ v1 = 0)) (h0 : Btw 0 u0 v0) (h1 : Btw 0 u1 v1) : u0 * v0 + u1 * v1 > 0 := by
  have key : ∀ u v : Int, Btw 0 u v → 0 ≤ u * v ∧ (v ≠ 0 → 0 < u * v) := by
    intro u v h
    unfold Btw at h
    rcases h with ⟨a, b⟩ | ⟨a, b⟩
    · exact ⟨Int.mul_nonneg (by omega) a, fun hv => Int.mul_pos (by omega) (by omega)⟩
    · exact ⟨by rw [← Int.neg_mul_neg]; exact Int.mul_nonneg (by omega) (by omega), fun hv => by rw [← Int.neg_mul_neg]; exact Int.mul_pos (by omega) (by omega)⟩
  have k0 := key u0 v0 h0
  have k1 := key u1 v1 h1
  by_cases a : v0 = 0
  · have := k1.2 (fun e => hv ⟨a, e⟩)
    omega
  · have := k0.2 a
    omega
theorem spike_iff {p0 p1 c0 c1 q0 q1 : Int} (hp : ¬ (p0 = c0 ∧ p1 = c1)) (hq : ¬ (c0 = q0 ∧ c1 = q1)) :
    (crossI p0 p1 c0 c1 q0 q1 = 0 ∧ (p0 - c0) * (q0 - c0) + (p1 - c1) * (q1 - c1) > 0) ↔ (OnI p0 p1 c0 c1 q0 q1 ∨ OnI c0 c1 q0 q1 p0 p1) := by
  have hc : crossI p0 p1 c0 c1 q0 q1 = (p0 - c0) * (c1 - q1) - (p1 - c1) * (c0 - q0) := by
    unfold crossI
    simp only [Int.mul_sub, Int.sub_mul, Int.mul_comm]
    omega
  have ht : crossI c0 c1 q0 q1 p0 p1 = crossI p0 p1 c0 c1 q0 q1 := crossI_turn _ _ _ _ _ _
  have b1 : ∀ x y z : Int, Btw 0 (x - z) (y - z) ↔ Btw x z y := by intro x y z; unfold Btw; omega
  have b2 : ∀ x y z : Int, Btw 0 (x - z) (y - z) ↔ Btw z x y := by intro x y z; unfold Btw; omega
  unfold OnI
  rw [ht]
  constructor
  · rintro ⟨h1, h2⟩
    have hx : (p0 - c0) * (q1 - c1) = (p1 - c1) * (q0 - c0) := by
      rw [hc] at h1
      rw [show q1 - c1 = -(c1 - q1) by omega, show q0 - c0 = -(c0 - q0) by omega, Int.mul_neg, Int.mul_neg]
      omega
    rcases part_of hx h2 with ⟨a, b⟩ | ⟨a, b⟩
    · exact .inl ⟨h1, (b1 _ _ _).1 a, (b1 _ _ _).1 b⟩
    · exact .inr ⟨h1, (b2 _ _ _).1 a, (b2 _ _ _).1 b⟩
  · rintro (⟨h1, a, b⟩ | ⟨h1, a, b⟩)
    · exact ⟨h1, part_dot (by omega) ((b1 _ _ _).2 a) ((b1 _ _ _).2 b)⟩
    · refine ⟨h1, ?_⟩
      have := part_dot (u0 := q0 - c0) (u1 := q1 - c1) (v0 := p0 - c0) (v1 := p1 - c1) (by omega) ((b2 _ _ _).2 a) ((b2 _ _ _).2 b)
      rw [Int.mul_comm (p0 - c0), Int.mul_comm (p1 - c1)]
      exact this
section
variable {A B C D a1 b1 p1 q1 : Int}
end
end Go.Proofs.Ytjalkjeldlchoaa.X
end
section
set_option linter.unusedSectionVars false
set_option linter.unusedSimpArgs false
set_option linter.unusedVariables false
namespace Go.Proofs.Ytjalkjeldlchoaa.X
open Go Go.RowKit
set_option linter.unusedVariables false
set_option linter.unusedSimpArgs false
structure S23 where
  f0 : Int
  f1 : Int
def z23 : S23 := ⟨0, 0⟩
def rd_T23 (xs : List S23) (i : Int) : S23 := xs.getD i.toNat z23
def mx (a b : Int) : Int := if a < b then b else a
def mn (a b : Int) : Int := if b < a then b else a
def maxI (x y : Int) : Int := if x < y then y else x
def minI (x y : Int) : Int := if y < x then y else x
def sideAt (zs : List S23) (j : Nat) : S23 × S23 := (rd_T23 zs (j : Int), rd_T23 zs (((j + 1) % zs.length : Nat) : Int))
def upt (zs : List S23) (k : Nat) : List (S23 × S23) := (List.range k).map (sideAt zs)
theorem upt_succ (zs : List S23) (k : Nat) : upt zs (k + 1) = upt zs k ++ [sideAt zs k] := by simp [upt, List.range_succ]
def outP (p : S23) : Bool := decide (p.f0 < -536870912 ∨ p.f1 < -536870912 ∨ p.f0 > 536870912 ∨ p.f1 > 536870912)
def twin (x : S23 × S23) : Bool := x.1.f0 == x.2.f0 && (x.1.f1 == x.2.f1)
theorem w64 {n : Int} (h0 : -9223372036854775808 ≤ n) (h1 : n ≤ 9223372036854775807) : wrap64 n = n := by unfold wrap64; omega
theorem prod_le {x y : Int} (hx0 : -1073741824 ≤ x) (hx1 : x ≤ 1073741824) (hy0 : -1073741824 ≤ y) (hy1 : y ≤ 1073741824) : -1152921504606846976 ≤ x * y ∧ x * y ≤ 1152921504606846976 := by
  have h1 := Int.mul_nonneg (a := 1073741824 - x) (b := 1073741824 + y) (by omega) (by omega)
  have h2 := Int.mul_nonneg (a := 1073741824 + x) (b := 1073741824 - y) (by omega) (by omega)
  have h3 := Int.mul_nonneg (a := 1073741824 - x) (b := 1073741824 - y) (by omega) (by omega)
  have h4 := Int.mul_nonneg (a := 1073741824 + x) (b := 1073741824 + y) (by omega) (by omega)
  simp only [Int.sub_mul, Int.mul_sub, Int.add_mul, Int.mul_add] at h1 h2 h3 h4
  omega
def crossW (a0 a1 b0 b1 p0 p1 : Int) : Int := wrap64 (wrap64 (wrap64 (b0 - a0) * wrap64 (p1 - a1)) - wrap64 (wrap64 (b1 - a1) * wrap64 (p0 - a0)))
def sgnI (n : Int) : Int := if n > 0 then 1 else if n < 0 then -1 else 0
def InB (x : Int) : Prop := -536870912 ≤ x ∧ x ≤ 536870912
theorem crossW_in {a0 a1 b0 b1 p0 p1 : Int} (h0 : InB a0) (h1 : InB a1) (h2 : InB b0) (h3 : InB b1) (h4 : InB p0) (h5 : InB p1) : crossW a0 a1 b0 b1 p0 p1 = crossI a0 a1 b0 b1 p0 p1 := by
  unfold InB at *
  unfold crossW crossI
  rw [w64 (n := b0 - a0) (by omega) (by omega), w64 (n := p1 - a1) (by omega) (by omega), w64 (n := b1 - a1) (by omega) (by omega), w64 (n := p0 - a0) (by omega) (by omega)]
  have e1 := prod_le (x := b0 - a0) (y := p1 - a1) (by omega) (by omega) (by omega) (by omega)
  have e2 := prod_le (x := b1 - a1) (y := p0 - a0) (by omega) (by omega) (by omega) (by omega)
  rw [w64 (n := (b0 - a0) * (p1 - a1)) (by omega) (by omega), w64 (n := (b1 - a1) * (p0 - a0)) (by omega) (by omega)]
  exact w64 (by omega) (by omega)
def turnV (a0 a1 b0 b1 p0 p1 : Int) : Int := sgnI (crossW a0 a1 b0 b1 p0 p1)
theorem turnV_eq (a0 a1 b0 b1 p0 p1 : Int) : turnV a0 a1 b0 b1 p0 p1 = sgnI (crossW a0 a1 b0 b1 p0 p1) := rfl
def overV (a b c d : Int) : Bool := decide (mx a b ≥ mn c d) && decide (mx c d ≥ mn a b)
theorem overV_iff (a b c d : Int) : overV a b c d = true ↔ Ov a b c d := by
  unfold overV Ov mx mn
  rw [Bool.and_eq_true, decide_eq_true_iff, decide_eq_true_iff]
  repeat' split
  all_goals omega
def turnP (x : S23 × S23) (p q : Int) : Int := turnV x.1.f0 x.1.f1 x.2.f0 x.2.f1 p q
def onSide (p q : Int) (x : S23 × S23) : Bool := if turnP x p q = 0 then (if overV x.1.f0 x.2.f0 p p = true then overV x.1.f1 x.2.f1 q q else false) else false
def wind (p q : Int) (r : Int) (x : S23 × S23) : Int :=
  if x.1.f1 ≤ q ∧ x.2.f1 > q ∧ turnP x p q > 0 then wrap64 (r + 1) else if x.2.f1 ≤ q ∧ x.1.f1 > q ∧ turnP x p q < 0 then wrap64 (r - 1) else r
def winds (p q : Int) (xs : List (S23 × S23)) : Int := xs.foldl (wind p q) 0
theorem winds_snoc (p q : Int) (pre : List (S23 × S23)) (x : S23 × S23) : winds p q (pre ++ [x]) = wind p q (winds p q pre) x := by simp [winds]
def sideV (l : List S23) (p q : Int) : Int := if (upt l l.length).any (onSide p q) then 0 else if winds p q (upt l l.length) = 0 then -1 else 1
theorem outP_eq (x y : Int) : outP ⟨x, y⟩ = false ↔ InB x ∧ InB y := by
  simp only [outP, decide_eq_false_iff_not, InB]
  omega
theorem sgnI_cases (n : Int) : sgnI n = 1 ∧ n > 0 ∨ sgnI n = 0 ∧ n = 0 ∨ sgnI n = -1 ∧ n < 0 := by
  unfold sgnI
  repeat' split
  all_goals omega
def meetV (a0 a1 b0 b1 c0 c1 d0 d1 : Int) : Bool :=
  if overV a0 b0 c0 d0 = true then (if overV a1 b1 c1 d1 = true then (if wrap64 (turnV a0 a1 b0 b1 c0 c1 * turnV a0 a1 b0 b1 d0 d1) ≤ 0 then decide (wrap64 (turnV c0 c1 d0 d1 a0 a1 * turnV c0 c1 d0 d1 b0 b1) ≤ 0) else false) else false) else false
def out4 (a0 a1 b0 b1 c0 c1 d0 d1 : Int) : Bool := outP ⟨a0, a1⟩ || (outP ⟨b0, b1⟩ || (outP ⟨c0, c1⟩ || outP ⟨d0, d1⟩))
theorem sgn_mul (x y : Int) : wrap64 (sgnI x * sgnI y) ≤ 0 ↔ ¬ Same x y := by
  unfold Same
  rcases sgnI_cases x with ⟨h, h'⟩ | ⟨h, h'⟩ | ⟨h, h'⟩ <;> rcases sgnI_cases y with ⟨g, g'⟩ | ⟨g, g'⟩ | ⟨g, g'⟩ <;> rw [h, g] <;> simp [wrap64] <;> omega
section
variable {a0 a1 b0 b1 c0 c1 d0 d1 : Int} (ha : InB a0 ∧ InB a1) (hb : InB b0 ∧ InB b1) (hc : InB c0 ∧ InB c1) (hd : InB d0 ∧ InB d1)
include ha hb hc hd
theorem meetV_iff : meetV a0 a1 b0 b1 c0 c1 d0 d1 = true ↔ GeoI a0 a1 b0 b1 c0 c1 d0 d1 := by
  unfold meetV GeoI
  simp only [turnV_eq, crossW_in ha.1 ha.2 hb.1 hb.2 hc.1 hc.2, crossW_in ha.1 ha.2 hb.1 hb.2 hd.1 hd.2, crossW_in hc.1 hc.2 hd.1 hd.2 ha.1 ha.2, crossW_in hc.1 hc.2 hd.1 hd.2 hb.1 hb.2]
  rw [← overV_iff, ← overV_iff, ← sgn_mul, ← sgn_mul]
  by_cases h1 : overV a0 b0 c0 d0 = true
  · by_cases h2 : overV a1 b1 c1 d1 = true
    · rw [if_pos h1, if_pos h2]
      split <;> simp [*]
    · simp [h2]
  · simp [h1]
end
def onV (a0 a1 b0 b1 c0 c1 : Int) : Bool := if crossW a0 a1 b0 b1 c0 c1 = 0 then (if c0 ≥ mn a0 b0 then (if c0 ≤ mx a0 b0 then (if c1 ≥ mn a1 b1 then decide (c1 ≤ mx a1 b1) else false) else false) else false) else false
def properV (a0 a1 b0 b1 c0 c1 d0 d1 : Int) : Bool :=
  if wrap64 (sgnI (crossW a0 a1 b0 b1 c0 c1) * sgnI (crossW a0 a1 b0 b1 d0 d1)) < 0 then decide (wrap64 (sgnI (crossW c0 c1 d0 d1 a0 a1) * sgnI (crossW c0 c1 d0 d1 b0 b1)) < 0) else false
def commonV (a0 a1 b0 b1 c0 c1 d0 d1 : Int) : Bool :=
  onV a0 a1 b0 b1 c0 c1 || (onV a0 a1 b0 b1 d0 d1 || (onV c0 c1 d0 d1 a0 a1 || (onV c0 c1 d0 d1 b0 b1 || properV a0 a1 b0 b1 c0 c1 d0 d1)))
theorem sgn_opp (x y : Int) : wrap64 (sgnI x * sgnI y) < 0 ↔ Opp x y := by
  unfold Opp
  rcases sgnI_cases x with ⟨h, h'⟩ | ⟨h, h'⟩ | ⟨h, h'⟩ <;> rcases sgnI_cases y with ⟨g, g'⟩ | ⟨g, g'⟩ | ⟨g, g'⟩ <;> rw [h, g] <;> simp [wrap64] <;> omega
theorem onV_iff {a0 a1 b0 b1 c0 c1 : Int} (ha : InB a0 ∧ InB a1) (hb : InB b0 ∧ InB b1) (hc : InB c0 ∧ InB c1) : onV a0 a1 b0 b1 c0 c1 = true ↔ OnI a0 a1 b0 b1 c0 c1 := by
  unfold onV OnI Btw
  rw [crossW_in ha.1 ha.2 hb.1 hb.2 hc.1 hc.2]
  unfold mn mx
  repeat' split
  all_goals simp
  all_goals omega
theorem commonV_iff {a0 a1 b0 b1 c0 c1 d0 d1 : Int} (ha : InB a0 ∧ InB a1) (hb : InB b0 ∧ InB b1) (hc : InB c0 ∧ InB c1) (hd : InB d0 ∧ InB d1) :
    commonV a0 a1 b0 b1 c0 c1 d0 d1 = true ↔ RefI a0 a1 b0 b1 c0 c1 d0 d1 := by
  unfold commonV RefI properV
  rw [Bool.or_eq_true, Bool.or_eq_true, Bool.or_eq_true, Bool.or_eq_true, onV_iff ha hb hc, onV_iff ha hb hd, onV_iff hc hd ha, onV_iff hc hd hb]
  simp only [crossW_in ha.1 ha.2 hb.1 hb.2 hc.1 hc.2, crossW_in ha.1 ha.2 hb.1 hb.2 hd.1 hd.2, crossW_in hc.1 hc.2 hd.1 hd.2 ha.1 ha.2, crossW_in hc.1 hc.2 hd.1 hd.2 hb.1 hb.2]
  rw [← sgn_opp, ← sgn_opp]
  have : ∀ (p q : Prop) [Decidable p] [Decidable q], ((if p then decide q else false) = true) ↔ (p ∧ q) := by
    intro p q _ _
    split <;> simp [*]
  rw [this]
theorem common_meet {a0 a1 b0 b1 c0 c1 d0 d1 : Int} (h : out4 a0 a1 b0 b1 c0 c1 d0 d1 = false) : commonV a0 a1 b0 b1 c0 c1 d0 d1 = meetV a0 a1 b0 b1 c0 c1 d0 d1 := by
  simp only [out4, Bool.or_eq_false_iff, outP_eq] at h
  obtain ⟨ha, hb, hc, hd⟩ := h
  rw [Bool.eq_iff_iff, commonV_iff ha hb hc hd, meetV_iff ha hb hc hd, geo_iff_ref]
def spikeV (p0 p1 c0 c1 q0 q1 : Int) : Bool := if crossW p0 p1 c0 c1 q0 q1 = 0 then decide (wrap64 (wrap64 (wrap64 (p0 - c0) * wrap64 (q0 - c0)) + wrap64 (wrap64 (p1 - c1) * wrap64 (q1 - c1))) > 0) else false
def pt (l : List S23) (i : Nat) : S23 := rd_T23 l (i : Int)
def nx (l : List S23) (i : Nat) : S23 := rd_T23 l ((i % l.length : Nat) : Int)
def spikeAt (l : List S23) (i : Nat) : Bool := spikeV (pt l i).f0 (pt l i).f1 (nx l (i + 1)).f0 (nx l (i + 1)).f1 (nx l (i + 2)).f0 (nx l (i + 2)).f1
def pairAt (l : List S23) (i j : Nat) : Bool := meetV (pt l i).f0 (pt l i).f1 (pt l (i + 1)).f0 (pt l (i + 1)).f1 (pt l j).f0 (pt l j).f1 (nx l (j + 1)).f0 (nx l (j + 1)).f1
def inner (l : List S23) (i : Nat) : Nat → Bool
  | 0 => false
  | m + 1 => (if i = 0 ∧ l.length - (m + 1) = l.length - 1 then false else pairAt l i (l.length - (m + 1))) || inner l i m
def outer (l : List S23) : Nat → Bool
  | 0 => false
  | m + 1 => spikeAt l (l.length - (m + 1)) || (inner l (l.length - (m + 1)) (m - 1) || outer l m)
def tangledV (l : List S23) : Bool := outer l l.length
def simpleV (l : List S23) : Int := if l.length < 3 then 90 else if 64 < l.length then 4 else if l.any outP = true then 5 else if (upt l l.length).any twin = true then 91 else if tangledV l = true then 92 else 0
theorem simpleV_zero {l : List S23} (h : simpleV l = 0) : 3 ≤ l.length ∧ l.length ≤ 64 ∧ l.any outP = false ∧ (upt l l.length).any twin = false ∧ tangledV l = false := by
  unfold simpleV at h
  repeat' split at h
  all_goals first | omega | skip
  exact ⟨by omega, by omega, Bool.eq_false_iff.mpr ‹_›, Bool.eq_false_iff.mpr ‹_›, Bool.eq_false_iff.mpr ‹_›⟩
theorem inner_iff {l : List S23} {i : Nat} : ∀ m, m ≤ l.length → (inner l i m = true ↔ ∃ j, l.length - m ≤ j ∧ j < l.length ∧ ¬ (i = 0 ∧ j = l.length - 1) ∧ pairAt l i j = true) := by
  intro m
  induction m with
  | zero => exact fun _ => ⟨fun h => (by cases h), fun ⟨j, h1, h2, _⟩ => by omega⟩
  | succ m ih =>
    intro hm
    rw [inner, Bool.or_eq_true, ih (by omega)]
    constructor
    · rintro (h | ⟨j, h1, h2, h3⟩)
      · by_cases c : i = 0 ∧ l.length - (m + 1) = l.length - 1
        · rw [if_pos c] at h; cases h
        · rw [if_neg c] at h
          exact ⟨l.length - (m + 1), by omega, by omega, c, h⟩
      · exact ⟨j, by omega, h2, h3⟩
    · rintro ⟨j, h1, h2, h3, h4⟩
      by_cases c : j = l.length - (m + 1)
      · subst c
        exact .inl (by rw [if_neg h3]; exact h4)
      · exact .inr ⟨j, by omega, h2, h3, h4⟩
theorem outer_iff {l : List S23} : ∀ m, m ≤ l.length → (outer l m = true ↔ ∃ i, l.length - m ≤ i ∧ i < l.length ∧ (spikeAt l i = true ∨ inner l i (l.length - i - 2) = true)) := by
  intro m
  induction m with
  | zero => exact fun _ => ⟨fun h => (by cases h), fun ⟨j, h1, h2, _⟩ => by omega⟩
  | succ m ih =>
    intro hm
    rw [outer, Bool.or_eq_true, Bool.or_eq_true, ih (by omega)]
    constructor
    · rintro (h | h | ⟨i, h1, h2, h3⟩)
      · exact ⟨l.length - (m + 1), by omega, by omega, .inl h⟩
      · exact ⟨l.length - (m + 1), by omega, by omega, .inr (by rw [show l.length - (l.length - (m + 1)) - 2 = m - 1 by omega]; exact h)⟩
      · exact ⟨i, by omega, h2, h3⟩
    · rintro ⟨i, h1, h2, h3⟩
      by_cases c : i = l.length - (m + 1)
      · subst c
        rw [show l.length - (l.length - (m + 1)) - 2 = m - 1 by omega] at h3
        rcases h3 with h3 | h3
        · exact .inl h3
        · exact .inr (.inl h3)
      · exact .inr (.inr ⟨i, by omega, h2, h3⟩)
theorem tangledV_iff {l : List S23} : tangledV l = true ↔ (∃ i, i < l.length ∧ spikeAt l i = true) ∨ (∃ i j, i + 2 ≤ j ∧ j < l.length ∧ ¬ (i = 0 ∧ j = l.length - 1) ∧ pairAt l i j = true) := by
  rw [tangledV, outer_iff _ (Nat.le_refl _)]
  constructor
  · rintro ⟨i, _, h2, h | h⟩
    · exact .inl ⟨i, h2, h⟩
    · obtain ⟨j, h3, h4, h5⟩ := (inner_iff _ (by omega)).1 h
      exact .inr ⟨i, j, by omega, h4, h5⟩
  · rintro (⟨i, h1, h2⟩ | ⟨i, j, h1, h2, h3⟩)
    · exact ⟨i, by omega, h1, .inl h2⟩
    · exact ⟨i, by omega, by omega, .inr ((inner_iff _ (by omega)).2 ⟨j, by omega, h2, h3⟩)⟩
structure Fine (l : List S23) : Prop where
  len : 3 ≤ l.length
  ins : ∀ i, i < l.length → InB (pt l i).f0 ∧ InB (pt l i).f1
  two : ∀ i, i < l.length → ¬ ((pt l i).f0 = (nx l (i + 1)).f0 ∧ (pt l i).f1 = (nx l (i + 1)).f1)
theorem nx_pt' {l : List S23} {i : Nat} (h : 0 < l.length) : ∃ j, j < l.length ∧ nx l i = pt l j := ⟨i % l.length, Nat.mod_lt _ h, rfl⟩
theorem nx_lt {l : List S23} {i : Nat} (h : i < l.length) : nx l i = pt l i := by rw [nx, Nat.mod_eq_of_lt h]; rfl
theorem nx_len {l : List S23} (h : 0 < l.length) : nx l l.length = pt l 0 := by rw [nx, Nat.mod_self]; rfl
theorem nx_len1 {l : List S23} (h : 1 < l.length) : nx l (l.length + 1) = pt l 1 := by rw [nx, Nat.add_mod_left, Nat.mod_eq_of_lt h]; rfl
theorem spikeI {p c q : S23} (hp : InB p.f0 ∧ InB p.f1) (hc : InB c.f0 ∧ InB c.f1) (hq : InB q.f0 ∧ InB q.f1) (h1 : ¬ (p.f0 = c.f0 ∧ p.f1 = c.f1)) (h2 : ¬ (c.f0 = q.f0 ∧ c.f1 = q.f1)) :
    spikeV p.f0 p.f1 c.f0 c.f1 q.f0 q.f1 = true ↔ (OnI p.f0 p.f1 c.f0 c.f1 q.f0 q.f1 ∨ OnI c.f0 c.f1 q.f0 q.f1 p.f0 p.f1) := by
  rw [← spike_iff h1 h2]
  have e : spikeV p.f0 p.f1 c.f0 c.f1 q.f0 q.f1 = (if crossW p.f0 p.f1 c.f0 c.f1 q.f0 q.f1 = 0 then decide (wrap64 (wrap64 (wrap64 (p.f0 - c.f0) * wrap64 (q.f0 - c.f0)) + wrap64 (wrap64 (p.f1 - c.f1) * wrap64 (q.f1 - c.f1))) > 0) else false) := rfl
  rw [e, crossW_in hp.1 hp.2 hc.1 hc.2 hq.1 hq.2]
  unfold InB at *
  rw [w64 (n := p.f0 - c.f0) (by omega) (by omega), w64 (n := q.f0 - c.f0) (by omega) (by omega), w64 (n := p.f1 - c.f1) (by omega) (by omega), w64 (n := q.f1 - c.f1) (by omega) (by omega)]
  have k1 := prod_le (x := p.f0 - c.f0) (y := q.f0 - c.f0) (by omega) (by omega) (by omega) (by omega)
  have k2 := prod_le (x := p.f1 - c.f1) (y := q.f1 - c.f1) (by omega) (by omega) (by omega) (by omega)
  rw [w64 (n := (p.f0 - c.f0) * (q.f0 - c.f0)) (by omega) (by omega), w64 (n := (p.f1 - c.f1) * (q.f1 - c.f1)) (by omega) (by omega), w64 (by omega) (by omega)]
  split
  · rw [decide_eq_true_iff]
    exact ⟨fun h => ⟨‹_›, h⟩, fun h => h.2⟩
  · exact ⟨fun h => (by cases h), fun h => absurd h.1 ‹_›⟩
def anyF (f : Nat → Bool) (n : Nat) : Nat → Bool
  | 0 => false
  | m + 1 => f (n - (m + 1)) || anyF f n m
theorem anyF_iff {f : Nat → Bool} {n : Nat} : ∀ m, m ≤ n → (anyF f n m = true ↔ ∃ i, n - m ≤ i ∧ i < n ∧ f i = true) := by
  intro m
  induction m with
  | zero => exact fun _ => ⟨fun h => (by cases h), fun ⟨i, h1, h2, _⟩ => by omega⟩
  | succ m ih =>
    intro hm
    rw [anyF, Bool.or_eq_true, ih (by omega)]
    constructor
    · rintro (h | ⟨i, h1, h2, h3⟩)
      · exact ⟨n - (m + 1), by omega, by omega, h⟩
      · exact ⟨i, by omega, h2, h3⟩
    · rintro ⟨i, h1, h2, h3⟩
      by_cases c : i = n - (m + 1)
      · exact .inl (c ▸ h3)
      · exact .inr ⟨i, by omega, h2, h3⟩
def onS (a b p : S23) : Bool := onV a.f0 a.f1 b.f0 b.f1 p.f0 p.f1
def refPair (l : List S23) (i j : Nat) : Bool :=
  if j = i + 1 then onS (pt l i) (nx l (i + 1)) (nx l (j + 1)) || onS (pt l j) (nx l (j + 1)) (pt l i)
  else if i = 0 ∧ j = l.length - 1 then onS (pt l i) (nx l (i + 1)) (pt l j) || onS (pt l j) (nx l (j + 1)) (nx l (i + 1))
  else commonV (pt l i).f0 (pt l i).f1 (nx l (i + 1)).f0 (nx l (i + 1)).f1 (pt l j).f0 (pt l j).f1 (nx l (j + 1)).f0 (nx l (j + 1)).f1
def refTangled (l : List S23) : Bool := anyF (fun i => anyF (refPair l i) l.length (l.length - (i + 1))) l.length l.length
def refV (l : List S23) : Int := if l.length < 3 then 90 else if 64 < l.length then 4 else if anyF (fun i => outP (pt l i)) l.length l.length = true then 5 else if anyF (fun i => twin (pt l i, nx l (i + 1))) l.length l.length = true then 91 else if refTangled l = true then 92 else 0
theorem refTangled_iff {l : List S23} : refTangled l = true ↔ ∃ i j, i < j ∧ j < l.length ∧ refPair l i j = true := by
  rw [refTangled, anyF_iff _ (Nat.le_refl _)]
  constructor
  · rintro ⟨i, _, h2, h⟩
    obtain ⟨j, h3, h4, h5⟩ := (anyF_iff _ (by omega)).1 h
    exact ⟨i, j, by omega, h4, h5⟩
  · rintro ⟨i, j, h1, h2, h3⟩
    exact ⟨i, by omega, by omega, (anyF_iff _ (by omega)).2 ⟨j, by omega, h2, h3⟩⟩
theorem spikeV_iff {p c q : S23} (hp : InB p.f0 ∧ InB p.f1) (hc : InB c.f0 ∧ InB c.f1) (hq : InB q.f0 ∧ InB q.f1) (h1 : ¬ (p.f0 = c.f0 ∧ p.f1 = c.f1)) (h2 : ¬ (c.f0 = q.f0 ∧ c.f1 = q.f1)) :
    spikeV p.f0 p.f1 c.f0 c.f1 q.f0 q.f1 = true ↔ (onS p c q = true ∨ onS c q p = true) := by
  rw [onS, onS, onV_iff hp hc hq, onV_iff hc hq hp]
  exact spikeI hp hc hq h1 h2
theorem tangled_same {l : List S23} (h : Fine l) : tangledV l = refTangled l := by
  have hl := h.len
  rw [Bool.eq_iff_iff, tangledV_iff, refTangled_iff]
  have sp : ∀ i, i + 1 < l.length → (spikeAt l i = true ↔ refPair l i (i + 1) = true) := by
    intro i hi
    have e1 := nx_lt (l := l) (i := i + 1) hi
    have t1 := h.two i (by omega)
    have t2 := h.two (i + 1) hi
    rw [e1] at t1
    obtain ⟨j, hj, ej⟩ := nx_pt' (l := l) (i := i + 1 + 1) (by omega)
    rw [spikeAt, refPair, if_pos rfl, Bool.or_eq_true, e1]
    rw [ej] at t2 ⊢
    exact spikeV_iff (h.ins i (by omega)) (h.ins (i + 1) hi) (h.ins j hj) t1 t2
  have sl : spikeAt l (l.length - 1) = true ↔ refPair l 0 (l.length - 1) = true := by
    have e0 : l.length - 1 + 1 = l.length := by omega
    have e2 : l.length - 1 + 2 = l.length + 1 := by omega
    have t1 := h.two (l.length - 1) (by omega)
    have t2 := h.two 0 (by omega)
    rw [e0, nx_len (by omega)] at t1
    rw [nx_lt (by omega)] at t2
    rw [spikeAt, refPair, if_neg (by omega), if_pos ⟨rfl, rfl⟩, Bool.or_eq_true, e0, e2, nx_len (by omega), nx_len1 (by omega), nx_lt (l := l) (i := 0 + 1) (by omega)]
    rw [spikeV_iff (h.ins _ (by omega)) (h.ins 0 (by omega)) (h.ins 1 (by omega)) t1 t2, Or.comm]
  have sm : ∀ i j, i + 2 ≤ j → j < l.length → ¬ (i = 0 ∧ j = l.length - 1) → refPair l i j = pairAt l i j := by
    intro i j h1 h2 h3
    obtain ⟨j', hj, ej⟩ := nx_pt' (l := l) (i := j + 1) (by omega)
    rw [refPair, if_neg (by omega), if_neg h3, pairAt, nx_lt (l := l) (i := i + 1) (by omega), ej]
    refine common_meet ?_
    have q : ∀ k, k < l.length → outP ⟨(pt l k).f0, (pt l k).f1⟩ = false := fun k hk => (outP_eq _ _).2 (h.ins k hk)
    simp [out4, q i (by omega), q (i + 1) (by omega), q j h2, q j' hj]
  constructor
  · rintro (⟨i, h1, h2⟩ | ⟨i, j, h1, h2, h3, h4⟩)
    · by_cases c : i + 1 < l.length
      · exact ⟨i, i + 1, by omega, c, (sp i c).1 h2⟩
      · obtain rfl : i = l.length - 1 := by omega
        exact ⟨0, l.length - 1, by omega, by omega, sl.1 h2⟩
    · exact ⟨i, j, by omega, h2, by rw [sm i j h1 h2 h3]; exact h4⟩
  · rintro ⟨i, j, h1, h2, h3⟩
    by_cases c1 : j = i + 1
    · subst c1
      exact .inl ⟨i, by omega, (sp i h2).2 h3⟩
    by_cases c2 : i = 0 ∧ j = l.length - 1
    · obtain ⟨rfl, rfl⟩ := c2
      exact .inl ⟨l.length - 1, by omega, sl.2 h3⟩
    · exact .inr ⟨i, j, by omega, h2, c2, by rw [← sm i j (by omega) h2 c2]; exact h3⟩
theorem refV_simple (l : List S23) : refV l = simpleV l := by
  unfold refV simpleV
  by_cases c1 : l.length < 3
  · rw [if_pos c1, if_pos c1]
  by_cases c2 : 64 < l.length
  · rw [if_neg c1, if_neg c1, if_pos c2, if_pos c2]
  rw [if_neg c1, if_neg c1, if_neg c2, if_neg c2]
  have eo : anyF (fun i => outP (pt l i)) l.length l.length = l.any outP := by
    rw [Bool.eq_iff_iff, anyF_iff _ (Nat.le_refl _), List.any_eq_true]
    constructor
    · rintro ⟨i, _, h2, h3⟩
      exact ⟨l[i], List.getElem_mem h2, by have e : pt l i = l[i] := by simp [pt, rd_T23, h2]
                                           rw [← e]; exact h3⟩
    · rintro ⟨x, hx, h3⟩
      obtain ⟨i, hi, rfl⟩ := List.getElem_of_mem hx
      exact ⟨i, by omega, hi, by have e : pt l i = l[i] := by simp [pt, rd_T23, hi]
                                 rw [e]; exact h3⟩
  have et : anyF (fun i => twin (pt l i, nx l (i + 1))) l.length l.length = (upt l l.length).any twin := by
    rw [Bool.eq_iff_iff, anyF_iff _ (Nat.le_refl _), List.any_eq_true]
    constructor
    · rintro ⟨i, _, h2, h3⟩
      exact ⟨_, List.mem_map.2 ⟨i, List.mem_range.2 h2, rfl⟩, h3⟩
    · rintro ⟨x, hx, h3⟩
      obtain ⟨i, hi, rfl⟩ := List.mem_map.1 hx
      exact ⟨i, by omega, List.mem_range.1 hi, h3⟩
  rw [eo, et]
  by_cases c3 : l.any outP = true
  · rw [if_pos c3, if_pos c3]
  by_cases c4 : (upt l l.length).any twin = true
  · rw [if_neg c3, if_neg c3, if_pos c4, if_pos c4]
  rw [if_neg c3, if_neg c3, if_neg c4, if_neg c4, tangled_same ⟨by omega, fun i hi => ?_, fun i hi ht => ?_⟩]
  · have e : pt l i = l[i] := by simp [pt, rd_T23, hi]
    rw [e]
    exact (outP_eq _ _).1 (Bool.eq_false_iff.mpr (List.any_eq_false.1 (Bool.eq_false_iff.mpr c3) l[i] (List.getElem_mem hi)))
  · refine List.any_eq_false.1 (Bool.eq_false_iff.mpr c4) (pt l i, nx l (i + 1)) (List.mem_map.2 ⟨i, List.mem_range.2 hi, rfl⟩) ?_
    simp [twin, ht.1, ht.2]
def cornersOf (x0 x1 y0 y1 : Int) : List S23 := [⟨x0, y0⟩, ⟨x0, y1⟩, ⟨x1, y0⟩, ⟨x1, y1⟩]
def leastV (a0 a1 b0 b1 : Int) (l : List S23) : Int := l.foldl (fun r c => minI r (turnV a0 a1 b0 b1 c.f0 c.f1)) 1
def mostV (a0 a1 b0 b1 : Int) (l : List S23) : Int := l.foldl (fun r c => maxI r (turnV a0 a1 b0 b1 c.f0 c.f1)) (-1)
def touchV (a0 a1 b0 b1 x0 x1 y0 y1 : Int) : Bool × Int :=
  if ([⟨a0, a1⟩, ⟨b0, b1⟩] : List S23).any outP = true then (false, 5) else if (cornersOf x0 x1 y0 y1).any outP = true then (false, 5) else
  if x0 > x1 then (false, 1) else if y0 > y1 then (false, 1) else if overV a0 b0 x0 x1 = false then (false, 0) else if overV a1 b1 y0 y1 = false then (false, 0) else
  (if leastV a0 a1 b0 b1 (cornersOf x0 x1 y0 y1) ≤ 0 then decide (mostV a0 a1 b0 b1 (cornersOf x0 x1 y0 y1) ≥ 0) else false, 0)
end Go.Proofs.Ytjalkjeldlchoaa.X
end
section
set_option linter.unusedSectionVars false
set_option linter.unusedSimpArgs false
set_option linter.unusedVariables false
namespace Go.Proofs.Ytjalkjeldlchoaa.Ex
open Go
set_option linter.unusedVariables false
def pV (x y : Int) : Value := .agg #[.int .i64 x, .int .i64 y]
section
variable (a0 a1 b0 b1 p0 p1 : Int)
include a0 a1 b0 b1 p0 p1
theorem cross_ok_p : go (exec (Try.prog) (8) (90) ([pV a0 a1, pV b0 b1, pV p0 p1]) ([])) [] = some (.mk (.int .i64 (IntKind.wrap .i64 (IntKind.wrap .i64 (IntKind.wrap .i64 (b0 - a0) * IntKind.wrap .i64 (p1 - a1)) - IntKind.wrap .i64 (IntKind.wrap .i64 (b1 - a1) * IntKind.wrap .i64 (p0 - a0))))) [] [], true, []) := by kernel_rfl
theorem cross_ok (R : Res) (k_p : Res.le (.mk (.int .i64 (IntKind.wrap .i64 (IntKind.wrap .i64 (IntKind.wrap .i64 (b0 - a0) * IntKind.wrap .i64 (p1 - a1)) - IntKind.wrap .i64 (IntKind.wrap .i64 (b1 - a1) * IntKind.wrap .i64 (p0 - a0))))) [] []) R) : CallSpec (Try.prog) (90) ([pV a0 a1, pV b0 b1, pV p0 p1]) ([]) R := by
  exact (CallSpec.id (go_ok (exec_ok tnamed tcalm tmixed _ _ _ _) (cross_ok_p a0 a1 b0 b1 p0 p1 ) aN)).le (k_p )
end
section
variable (a0 a1 b0 b1 p0 p1 c : Int) (hc : CallSpec Try.prog 90 [pV a0 a1, pV b0 b1, pV p0 p1] [] (.mk (.int .i64 c) [] []))
include a0 a1 b0 b1 p0 p1 c hc
theorem turn_ok_pt : go (exec (Try.prog) (8) (70) ([pV a0 a1, pV b0 b1, pV p0 p1]) ([])) [(18, .call (.mk (.int .i64 c) [] [])), (38, .dec false), (7, .dec true)] = some (.mk (.int .i64 (-1)) [] [], true, [type_of% hc, (!decide (c = c)) = false, decide (c < 0) = true]) := by kernel_rfl
theorem turn_ok_pft : go (exec (Try.prog) (8) (70) ([pV a0 a1, pV b0 b1, pV p0 p1]) ([])) [(18, .call (.mk (.int .i64 c) [] [])), (38, .dec false), (7, .dec false), (4, .dec true)] = some (.mk (.int .i64 1) [] [], true, [type_of% hc, (!decide (c = c)) = false, decide (c < 0) = false, decide (c > 0) = true]) := by kernel_rfl
theorem turn_ok_pff : go (exec (Try.prog) (8) (70) ([pV a0 a1, pV b0 b1, pV p0 p1]) ([])) [(18, .call (.mk (.int .i64 c) [] [])), (38, .dec false), (7, .dec false), (4, .dec false)] = some (.mk (.int .i64 0) [] [], true, [type_of% hc, (!decide (c = c)) = false, decide (c < 0) = false, decide (c > 0) = false]) := by kernel_rfl
theorem turn_ok (R : Res) (k_pt : (h0 : c < 0) → Res.le (.mk (.int .i64 (-1)) [] []) R) (k_pft : (h0 : ¬ (c < 0)) → (h1 : c > 0) → Res.le (.mk (.int .i64 1) [] []) R) (k_pff : (h0 : ¬ (c < 0)) → (h1 : ¬ (c > 0)) → Res.le (.mk (.int .i64 0) [] []) R) : CallSpec (Try.prog) (70) ([pV a0 a1, pV b0 b1, pV p0 p1]) ([]) R := by
  by_cases h0 : c < 0
  · exact (CallSpec.id (go_ok (exec_ok tnamed tcalm tmixed _ _ _ _) (turn_ok_pt a0 a1 b0 b1 p0 p1 c hc ) (aC (hc) (aC ((by first | exact bF (by with_reducible assumption) | (simp; done) | (simp <;> omega) | simp_all)) (aC (dTq h0) aN))))).le (k_pt h0)
  · by_cases h1 : c > 0
    · exact (CallSpec.id (go_ok (exec_ok tnamed tcalm tmixed _ _ _ _) (turn_ok_pft a0 a1 b0 b1 p0 p1 c hc ) (aC (hc) (aC ((by first | exact bF (by with_reducible assumption) | (simp; done) | (simp <;> omega) | simp_all)) (aC (dFq h0) (aC (dTq h1) aN)))))).le (k_pft h0 h1)
    · exact (CallSpec.id (go_ok (exec_ok tnamed tcalm tmixed _ _ _ _) (turn_ok_pff a0 a1 b0 b1 p0 p1 c hc ) (aC (hc) (aC ((by first | exact bF (by with_reducible assumption) | (simp; done) | (simp <;> omega) | simp_all)) (aC (dFq h0) (aC (dFq h1) aN)))))).le (k_pff h0 h1)
end
section
variable (a b c d : Int)
include a b c d
theorem over_ok_pt : go (exec (Try.prog) (8) (71) ([.int .i64 a, .int .i64 b, .int .i64 c, .int .i64 d]) ([])) [(11, .dec true), (1, .dec true), (1, .dec true), (1, .dec true), (1, .dec true), (1, .dec true), (1, .dec true), (1, .dec true)] = some (.mk (.bool (decide ((if d > c then d else c) ≥ if b < a then b else a))) [] [], true, [decide ((if b > a then b else a) ≥ if d < c then d else c) = true, decide ((if b > a then b else a) ≥ if d < c then d else c) = true, decide ((if b > a then b else a) ≥ if d < c then d else c) = true, decide ((if b > a then b else a) ≥ if d < c then d else c) = true, decide ((if b > a then b else a) ≥ if d < c then d else c) = true, decide ((if b > a then b else a) ≥ if d < c then d else c) = true, decide ((if b > a then b else a) ≥ if d < c then d else c) = true, decide ((if b > a then b else a) ≥ if d < c then d else c) = true]) := by kernel_rfl
theorem over_ok_pf : go (exec (Try.prog) (8) (71) ([.int .i64 a, .int .i64 b, .int .i64 c, .int .i64 d]) ([])) [(11, .dec false), (0, .dec false), (0, .dec false), (0, .dec false), (0, .dec false), (0, .dec false), (0, .dec false), (0, .dec false)] = some (.mk (.bool false) [] [], true, [decide ((if b > a then b else a) ≥ if d < c then d else c) = false, decide ((if b > a then b else a) ≥ if d < c then d else c) = false, decide ((if b > a then b else a) ≥ if d < c then d else c) = false, decide ((if b > a then b else a) ≥ if d < c then d else c) = false, decide ((if b > a then b else a) ≥ if d < c then d else c) = false, decide ((if b > a then b else a) ≥ if d < c then d else c) = false, decide ((if b > a then b else a) ≥ if d < c then d else c) = false, decide ((if b > a then b else a) ≥ if d < c then d else c) = false]) := by kernel_rfl
theorem over_ok (R : Res) (k_pt : (h0 : (if b > a then b else a) ≥ if d < c then d else c) → Res.le (.mk (.bool (decide ((if d > c then d else c) ≥ if b < a then b else a))) [] []) R) (k_pf : (h0 : ¬ ((if b > a then b else a) ≥ if d < c then d else c)) → Res.le (.mk (.bool false) [] []) R) : CallSpec (Try.prog) (71) ([.int .i64 a, .int .i64 b, .int .i64 c, .int .i64 d]) ([]) R := by
  by_cases h0 : (if b > a then b else a) ≥ if d < c then d else c
  · exact (CallSpec.id (go_ok (exec_ok tnamed tcalm tmixed _ _ _ _) (over_ok_pt a b c d ) (aC (dTq h0) (aC (dTq h0) (aC (dTq h0) (aC (dTq h0) (aC (dTq h0) (aC (dTq h0) (aC (dTq h0) (aC (dTq h0) aN)))))))))).le (k_pt h0)
  · exact (CallSpec.id (go_ok (exec_ok tnamed tcalm tmixed _ _ _ _) (over_ok_pf a b c d ) (aC (dFq h0) (aC (dFq h0) (aC (dFq h0) (aC (dFq h0) (aC (dFq h0) (aC (dFq h0) (aC (dFq h0) (aC (dFq h0) aN)))))))))).le (k_pf h0)
end
section
variable (a0 a1 b0 b1 p0 p1 c : Int) (hc : CallSpec Try.prog 90 [pV a0 a1, pV b0 b1, pV p0 p1] [] (.mk (.int .i64 c) [] []))
include a0 a1 b0 b1 p0 p1 c hc
theorem spike_ok_pt : go (exec (Try.prog) (8) (92) ([pV a0 a1, pV b0 b1, pV p0 p1]) ([])) [(59, .call (.mk (.int .i64 c) [] [])), (4, .dec true), (1, .dec true), (1, .dec true)] = some (.mk (.bool (decide (IntKind.wrap .i64 (IntKind.wrap .i64 (IntKind.wrap .i64 (a0 - b0) * IntKind.wrap .i64 (p0 - b0)) + IntKind.wrap .i64 (IntKind.wrap .i64 (a1 - b1) * IntKind.wrap .i64 (p1 - b1))) > 0))) [] [], true, [type_of% hc, decide (c = 0) = true, decide (c = 0) = true, decide (c = 0) = true]) := by kernel_rfl
theorem spike_ok_pf : go (exec (Try.prog) (8) (92) ([pV a0 a1, pV b0 b1, pV p0 p1]) ([])) [(59, .call (.mk (.int .i64 c) [] [])), (4, .dec false), (0, .dec false), (0, .dec false)] = some (.mk (.bool false) [] [], true, [type_of% hc, decide (c = 0) = false, decide (c = 0) = false, decide (c = 0) = false]) := by kernel_rfl
theorem spike_ok (R : Res) (k_pt : (h0 : c = 0) → Res.le (.mk (.bool (decide (IntKind.wrap .i64 (IntKind.wrap .i64 (IntKind.wrap .i64 (a0 - b0) * IntKind.wrap .i64 (p0 - b0)) + IntKind.wrap .i64 (IntKind.wrap .i64 (a1 - b1) * IntKind.wrap .i64 (p1 - b1))) > 0))) [] []) R) (k_pf : (h0 : ¬ (c = 0)) → Res.le (.mk (.bool false) [] []) R) : CallSpec (Try.prog) (92) ([pV a0 a1, pV b0 b1, pV p0 p1]) ([]) R := by
  by_cases h0 : c = 0
  · exact (CallSpec.id (go_ok (exec_ok tnamed tcalm tmixed _ _ _ _) (spike_ok_pt a0 a1 b0 b1 p0 p1 c hc ) (aC (hc) (aC (dTq h0) (aC (dTq h0) (aC (dTq h0) aN)))))).le (k_pt h0)
  · exact (CallSpec.id (go_ok (exec_ok tnamed tcalm tmixed _ _ _ _) (spike_ok_pf a0 a1 b0 b1 p0 p1 c hc ) (aC (hc) (aC (dFq h0) (aC (dFq h0) (aC (dFq h0) aN)))))).le (k_pf h0)
end
section
variable (x y : Int)
include x y
theorem fits_ok_pttt : go (exec (Try.prog) (8) (49) ([pV x y]) ([])) [(12, .dec true), (1, .dec true), (3, .dec true), (1, .dec true), (2, .dec true), (1, .dec true), (3, .dec true), (1, .dec true), (2, .dec true), (1, .dec true), (3, .dec true), (1, .dec true)] = some (.mk (.bool (decide (y ≤ 536870912))) [] [], true, [decide (x ≥ -536870912) = true, decide (x ≥ -536870912) = true, decide (x ≥ -536870912) = true, decide (x ≥ -536870912) = true, decide (x ≤ 536870912) = true, decide (x ≤ 536870912) = true, decide (x ≤ 536870912) = true, decide (x ≤ 536870912) = true, decide (y ≥ -536870912) = true, decide (y ≥ -536870912) = true, decide (y ≥ -536870912) = true, decide (y ≥ -536870912) = true]) := by kernel_rfl
theorem fits_ok_pttf : go (exec (Try.prog) (8) (49) ([pV x y]) ([])) [(12, .dec true), (1, .dec true), (3, .dec true), (1, .dec true), (2, .dec true), (1, .dec true), (3, .dec true), (1, .dec true), (2, .dec false), (0, .dec false), (0, .dec false), (0, .dec false)] = some (.mk (.bool false) [] [], true, [decide (x ≥ -536870912) = true, decide (x ≥ -536870912) = true, decide (x ≥ -536870912) = true, decide (x ≥ -536870912) = true, decide (x ≤ 536870912) = true, decide (x ≤ 536870912) = true, decide (x ≤ 536870912) = true, decide (x ≤ 536870912) = true, decide (y ≥ -536870912) = false, decide (y ≥ -536870912) = false, decide (y ≥ -536870912) = false, decide (y ≥ -536870912) = false]) := by kernel_rfl
theorem fits_ok_ptf : go (exec (Try.prog) (8) (49) ([pV x y]) ([])) [(12, .dec true), (1, .dec true), (3, .dec true), (1, .dec true), (2, .dec false), (0, .dec false), (0, .dec false), (0, .dec false)] = some (.mk (.bool false) [] [], true, [decide (x ≥ -536870912) = true, decide (x ≥ -536870912) = true, decide (x ≥ -536870912) = true, decide (x ≥ -536870912) = true, decide (x ≤ 536870912) = false, decide (x ≤ 536870912) = false, decide (x ≤ 536870912) = false, decide (x ≤ 536870912) = false]) := by kernel_rfl
theorem fits_ok_pf : go (exec (Try.prog) (8) (49) ([pV x y]) ([])) [(12, .dec false), (0, .dec false), (0, .dec false), (0, .dec false)] = some (.mk (.bool false) [] [], true, [decide (x ≥ -536870912) = false, decide (x ≥ -536870912) = false, decide (x ≥ -536870912) = false, decide (x ≥ -536870912) = false]) := by kernel_rfl
theorem fits_ok (R : Res) (k_pttt : (h0 : x ≥ -536870912) → (h1 : x ≤ 536870912) → (h2 : y ≥ -536870912) → Res.le (.mk (.bool (decide (y ≤ 536870912))) [] []) R) (k_pttf : (h0 : x ≥ -536870912) → (h1 : x ≤ 536870912) → (h2 : ¬ (y ≥ -536870912)) → Res.le (.mk (.bool false) [] []) R) (k_ptf : (h0 : x ≥ -536870912) → (h1 : ¬ (x ≤ 536870912)) → Res.le (.mk (.bool false) [] []) R) (k_pf : (h0 : ¬ (x ≥ -536870912)) → Res.le (.mk (.bool false) [] []) R) : CallSpec (Try.prog) (49) ([pV x y]) ([]) R := by
  by_cases h0 : x ≥ -536870912
  · by_cases h1 : x ≤ 536870912
    · by_cases h2 : y ≥ -536870912
      · exact (CallSpec.id (go_ok (exec_ok tnamed tcalm tmixed _ _ _ _) (fits_ok_pttt x y ) (aC (dTq h0) (aC (dTq h0) (aC (dTq h0) (aC (dTq h0) (aC (dTq h1) (aC (dTq h1) (aC (dTq h1) (aC (dTq h1) (aC (dTq h2) (aC (dTq h2) (aC (dTq h2) (aC (dTq h2) aN)))))))))))))).le (k_pttt h0 h1 h2)
      · exact (CallSpec.id (go_ok (exec_ok tnamed tcalm tmixed _ _ _ _) (fits_ok_pttf x y ) (aC (dTq h0) (aC (dTq h0) (aC (dTq h0) (aC (dTq h0) (aC (dTq h1) (aC (dTq h1) (aC (dTq h1) (aC (dTq h1) (aC (dFq h2) (aC (dFq h2) (aC (dFq h2) (aC (dFq h2) aN)))))))))))))).le (k_pttf h0 h1 h2)
    · exact (CallSpec.id (go_ok (exec_ok tnamed tcalm tmixed _ _ _ _) (fits_ok_ptf x y ) (aC (dTq h0) (aC (dTq h0) (aC (dTq h0) (aC (dTq h0) (aC (dFq h1) (aC (dFq h1) (aC (dFq h1) (aC (dFq h1) aN)))))))))).le (k_ptf h0 h1)
  · exact (CallSpec.id (go_ok (exec_ok tnamed tcalm tmixed _ _ _ _) (fits_ok_pf x y ) (aC (dFq h0) (aC (dFq h0) (aC (dFq h0) (aC (dFq h0) aN)))))).le (k_pf h0)
end
section
variable (a0 a1 b0 b1 p0 p1 c : Int) (hc : CallSpec Try.prog 77 [pV a0 a1, pV b0 b1, pV p0 p1] [] (.mk (.int .i64 c) [] []))
include a0 a1 b0 b1 p0 p1 c hc
theorem on_ok_ptttt : go (exec (Try.prog) (8) (76) ([pV a0 a1, pV b0 b1, pV p0 p1]) ([])) [(18, .call (.mk (.int .i64 c) [] [])), (4, .dec true), (1, .dec true), (3, .dec true), (1, .dec true), (3, .dec true), (1, .dec true), (3, .dec true), (1, .dec true), (1, .dec true), (2, .dec true), (1, .dec true), (3, .dec true), (1, .dec true), (3, .dec true), (1, .dec true), (3, .dec true), (1, .dec true), (1, .dec true), (2, .dec true), (1, .dec true), (3, .dec true), (1, .dec true), (3, .dec true), (1, .dec true), (3, .dec true), (1, .dec true), (1, .dec true), (2, .dec true), (1, .dec true), (3, .dec true), (1, .dec true), (3, .dec true), (1, .dec true), (3, .dec true), (1, .dec true), (1, .dec true)] = some (.mk (.bool (decide (p1 ≤ if b1 > a1 then b1 else a1))) [] [], true, [type_of% hc, decide (c = 0) = true, decide (c = 0) = true, decide (c = 0) = true, decide (c = 0) = true, decide (c = 0) = true, decide (c = 0) = true, decide (c = 0) = true, decide (c = 0) = true, decide (c = 0) = true, decide (p0 ≥ if b0 < a0 then b0 else a0) = true, decide (p0 ≥ if b0 < a0 then b0 else a0) = true, decide (p0 ≥ if b0 < a0 then b0 else a0) = true, decide (p0 ≥ if b0 < a0 then b0 else a0) = true, decide (p0 ≥ if b0 < a0 then b0 else a0) = true, decide (p0 ≥ if b0 < a0 then b0 else a0) = true, decide (p0 ≥ if b0 < a0 then b0 else a0) = true, decide (p0 ≥ if b0 < a0 then b0 else a0) = true, decide (p0 ≥ if b0 < a0 then b0 else a0) = true, decide (p0 ≤ if b0 > a0 then b0 else a0) = true, decide (p0 ≤ if b0 > a0 then b0 else a0) = true, decide (p0 ≤ if b0 > a0 then b0 else a0) = true, decide (p0 ≤ if b0 > a0 then b0 else a0) = true, decide (p0 ≤ if b0 > a0 then b0 else a0) = true, decide (p0 ≤ if b0 > a0 then b0 else a0) = true, decide (p0 ≤ if b0 > a0 then b0 else a0) = true, decide (p0 ≤ if b0 > a0 then b0 else a0) = true, decide (p0 ≤ if b0 > a0 then b0 else a0) = true, decide (p1 ≥ if b1 < a1 then b1 else a1) = true, decide (p1 ≥ if b1 < a1 then b1 else a1) = true, decide (p1 ≥ if b1 < a1 then b1 else a1) = true, decide (p1 ≥ if b1 < a1 then b1 else a1) = true, decide (p1 ≥ if b1 < a1 then b1 else a1) = true, decide (p1 ≥ if b1 < a1 then b1 else a1) = true, decide (p1 ≥ if b1 < a1 then b1 else a1) = true, decide (p1 ≥ if b1 < a1 then b1 else a1) = true, decide (p1 ≥ if b1 < a1 then b1 else a1) = true]) := by kernel_rfl
theorem on_ok_ptttf : go (exec (Try.prog) (8) (76) ([pV a0 a1, pV b0 b1, pV p0 p1]) ([])) [(18, .call (.mk (.int .i64 c) [] [])), (4, .dec true), (1, .dec true), (3, .dec true), (1, .dec true), (3, .dec true), (1, .dec true), (3, .dec true), (1, .dec true), (1, .dec true), (2, .dec true), (1, .dec true), (3, .dec true), (1, .dec true), (3, .dec true), (1, .dec true), (3, .dec true), (1, .dec true), (1, .dec true), (2, .dec true), (1, .dec true), (3, .dec true), (1, .dec true), (3, .dec true), (1, .dec true), (3, .dec true), (1, .dec true), (1, .dec true), (2, .dec false), (0, .dec false), (0, .dec false), (0, .dec false), (0, .dec false), (0, .dec false), (0, .dec false), (0, .dec false), (0, .dec false)] = some (.mk (.bool false) [] [], true, [type_of% hc, decide (c = 0) = true, decide (c = 0) = true, decide (c = 0) = true, decide (c = 0) = true, decide (c = 0) = true, decide (c = 0) = true, decide (c = 0) = true, decide (c = 0) = true, decide (c = 0) = true, decide (p0 ≥ if b0 < a0 then b0 else a0) = true, decide (p0 ≥ if b0 < a0 then b0 else a0) = true, decide (p0 ≥ if b0 < a0 then b0 else a0) = true, decide (p0 ≥ if b0 < a0 then b0 else a0) = true, decide (p0 ≥ if b0 < a0 then b0 else a0) = true, decide (p0 ≥ if b0 < a0 then b0 else a0) = true, decide (p0 ≥ if b0 < a0 then b0 else a0) = true, decide (p0 ≥ if b0 < a0 then b0 else a0) = true, decide (p0 ≥ if b0 < a0 then b0 else a0) = true, decide (p0 ≤ if b0 > a0 then b0 else a0) = true, decide (p0 ≤ if b0 > a0 then b0 else a0) = true, decide (p0 ≤ if b0 > a0 then b0 else a0) = true, decide (p0 ≤ if b0 > a0 then b0 else a0) = true, decide (p0 ≤ if b0 > a0 then b0 else a0) = true, decide (p0 ≤ if b0 > a0 then b0 else a0) = true, decide (p0 ≤ if b0 > a0 then b0 else a0) = true, decide (p0 ≤ if b0 > a0 then b0 else a0) = true, decide (p0 ≤ if b0 > a0 then b0 else a0) = true, decide (p1 ≥ if b1 < a1 then b1 else a1) = false, decide (p1 ≥ if b1 < a1 then b1 else a1) = false, decide (p1 ≥ if b1 < a1 then b1 else a1) = false, decide (p1 ≥ if b1 < a1 then b1 else a1) = false, decide (p1 ≥ if b1 < a1 then b1 else a1) = false, decide (p1 ≥ if b1 < a1 then b1 else a1) = false, decide (p1 ≥ if b1 < a1 then b1 else a1) = false, decide (p1 ≥ if b1 < a1 then b1 else a1) = false, decide (p1 ≥ if b1 < a1 then b1 else a1) = false]) := by kernel_rfl
theorem on_ok_pttf : go (exec (Try.prog) (8) (76) ([pV a0 a1, pV b0 b1, pV p0 p1]) ([])) [(18, .call (.mk (.int .i64 c) [] [])), (4, .dec true), (1, .dec true), (3, .dec true), (1, .dec true), (3, .dec true), (1, .dec true), (3, .dec true), (1, .dec true), (1, .dec true), (2, .dec true), (1, .dec true), (3, .dec true), (1, .dec true), (3, .dec true), (1, .dec true), (3, .dec true), (1, .dec true), (1, .dec true), (2, .dec false), (0, .dec false), (0, .dec false), (0, .dec false), (0, .dec false), (0, .dec false), (0, .dec false), (0, .dec false), (0, .dec false)] = some (.mk (.bool false) [] [], true, [type_of% hc, decide (c = 0) = true, decide (c = 0) = true, decide (c = 0) = true, decide (c = 0) = true, decide (c = 0) = true, decide (c = 0) = true, decide (c = 0) = true, decide (c = 0) = true, decide (c = 0) = true, decide (p0 ≥ if b0 < a0 then b0 else a0) = true, decide (p0 ≥ if b0 < a0 then b0 else a0) = true, decide (p0 ≥ if b0 < a0 then b0 else a0) = true, decide (p0 ≥ if b0 < a0 then b0 else a0) = true, decide (p0 ≥ if b0 < a0 then b0 else a0) = true, decide (p0 ≥ if b0 < a0 then b0 else a0) = true, decide (p0 ≥ if b0 < a0 then b0 else a0) = true, decide (p0 ≥ if b0 < a0 then b0 else a0) = true, decide (p0 ≥ if b0 < a0 then b0 else a0) = true, decide (p0 ≤ if b0 > a0 then b0 else a0) = false, decide (p0 ≤ if b0 > a0 then b0 else a0) = false, decide (p0 ≤ if b0 > a0 then b0 else a0) = false, decide (p0 ≤ if b0 > a0 then b0 else a0) = false, decide (p0 ≤ if b0 > a0 then b0 else a0) = false, decide (p0 ≤ if b0 > a0 then b0 else a0) = false, decide (p0 ≤ if b0 > a0 then b0 else a0) = false, decide (p0 ≤ if b0 > a0 then b0 else a0) = false, decide (p0 ≤ if b0 > a0 then b0 else a0) = false]) := by kernel_rfl
theorem on_ok_ptf : go (exec (Try.prog) (8) (76) ([pV a0 a1, pV b0 b1, pV p0 p1]) ([])) [(18, .call (.mk (.int .i64 c) [] [])), (4, .dec true), (1, .dec true), (3, .dec true), (1, .dec true), (3, .dec true), (1, .dec true), (3, .dec true), (1, .dec true), (1, .dec true), (2, .dec false), (0, .dec false), (0, .dec false), (0, .dec false), (0, .dec false), (0, .dec false), (0, .dec false), (0, .dec false), (0, .dec false)] = some (.mk (.bool false) [] [], true, [type_of% hc, decide (c = 0) = true, decide (c = 0) = true, decide (c = 0) = true, decide (c = 0) = true, decide (c = 0) = true, decide (c = 0) = true, decide (c = 0) = true, decide (c = 0) = true, decide (c = 0) = true, decide (p0 ≥ if b0 < a0 then b0 else a0) = false, decide (p0 ≥ if b0 < a0 then b0 else a0) = false, decide (p0 ≥ if b0 < a0 then b0 else a0) = false, decide (p0 ≥ if b0 < a0 then b0 else a0) = false, decide (p0 ≥ if b0 < a0 then b0 else a0) = false, decide (p0 ≥ if b0 < a0 then b0 else a0) = false, decide (p0 ≥ if b0 < a0 then b0 else a0) = false, decide (p0 ≥ if b0 < a0 then b0 else a0) = false, decide (p0 ≥ if b0 < a0 then b0 else a0) = false]) := by kernel_rfl
theorem on_ok_pf : go (exec (Try.prog) (8) (76) ([pV a0 a1, pV b0 b1, pV p0 p1]) ([])) [(18, .call (.mk (.int .i64 c) [] [])), (4, .dec false), (0, .dec false), (0, .dec false), (0, .dec false), (0, .dec false), (0, .dec false), (0, .dec false), (0, .dec false), (0, .dec false)] = some (.mk (.bool false) [] [], true, [type_of% hc, decide (c = 0) = false, decide (c = 0) = false, decide (c = 0) = false, decide (c = 0) = false, decide (c = 0) = false, decide (c = 0) = false, decide (c = 0) = false, decide (c = 0) = false, decide (c = 0) = false]) := by kernel_rfl
theorem on_ok (R : Res) (k_ptttt : (h0 : c = 0) → (h1 : p0 ≥ if b0 < a0 then b0 else a0) → (h2 : p0 ≤ if b0 > a0 then b0 else a0) → (h3 : p1 ≥ if b1 < a1 then b1 else a1) → Res.le (.mk (.bool (decide (p1 ≤ if b1 > a1 then b1 else a1))) [] []) R) (k_ptttf : (h0 : c = 0) → (h1 : p0 ≥ if b0 < a0 then b0 else a0) → (h2 : p0 ≤ if b0 > a0 then b0 else a0) → (h3 : ¬ (p1 ≥ if b1 < a1 then b1 else a1)) → Res.le (.mk (.bool false) [] []) R) (k_pttf : (h0 : c = 0) → (h1 : p0 ≥ if b0 < a0 then b0 else a0) → (h2 : ¬ (p0 ≤ if b0 > a0 then b0 else a0)) → Res.le (.mk (.bool false) [] []) R) (k_ptf : (h0 : c = 0) → (h1 : ¬ (p0 ≥ if b0 < a0 then b0 else a0)) → Res.le (.mk (.bool false) [] []) R) (k_pf : (h0 : ¬ (c = 0)) → Res.le (.mk (.bool false) [] []) R) : CallSpec (Try.prog) (76) ([pV a0 a1, pV b0 b1, pV p0 p1]) ([]) R := by
  by_cases h0 : c = 0
  · by_cases h1 : p0 ≥ if b0 < a0 then b0 else a0
    · by_cases h2 : p0 ≤ if b0 > a0 then b0 else a0
      · by_cases h3 : p1 ≥ if b1 < a1 then b1 else a1
        · exact (CallSpec.id (go_ok (exec_ok tnamed tcalm tmixed _ _ _ _) (on_ok_ptttt a0 a1 b0 b1 p0 p1 c hc ) (aC (hc) (aC (dTq h0) (aC (dTq h0) (aC (dTq h0) (aC (dTq h0) (aC (dTq h0) (aC (dTq h0) (aC (dTq h0) (aC (dTq h0) (aC (dTq h0) (aC (dTq h1) (aC (dTq h1) (aC (dTq h1) (aC (dTq h1) (aC (dTq h1) (aC (dTq h1) (aC (dTq h1) (aC (dTq h1) (aC (dTq h1) (aC (dTq h2) (aC (dTq h2) (aC (dTq h2) (aC (dTq h2) (aC (dTq h2) (aC (dTq h2) (aC (dTq h2) (aC (dTq h2) (aC (dTq h2) (aC (dTq h3) (aC (dTq h3) (aC (dTq h3) (aC (dTq h3) (aC (dTq h3) (aC (dTq h3) (aC (dTq h3) (aC (dTq h3) (aC (dTq h3) aN))))))))))))))))))))))))))))))))))))))).le (k_ptttt h0 h1 h2 h3)
        · exact (CallSpec.id (go_ok (exec_ok tnamed tcalm tmixed _ _ _ _) (on_ok_ptttf a0 a1 b0 b1 p0 p1 c hc ) (aC (hc) (aC (dTq h0) (aC (dTq h0) (aC (dTq h0) (aC (dTq h0) (aC (dTq h0) (aC (dTq h0) (aC (dTq h0) (aC (dTq h0) (aC (dTq h0) (aC (dTq h1) (aC (dTq h1) (aC (dTq h1) (aC (dTq h1) (aC (dTq h1) (aC (dTq h1) (aC (dTq h1) (aC (dTq h1) (aC (dTq h1) (aC (dTq h2) (aC (dTq h2) (aC (dTq h2) (aC (dTq h2) (aC (dTq h2) (aC (dTq h2) (aC (dTq h2) (aC (dTq h2) (aC (dTq h2) (aC (dFq h3) (aC (dFq h3) (aC (dFq h3) (aC (dFq h3) (aC (dFq h3) (aC (dFq h3) (aC (dFq h3) (aC (dFq h3) (aC (dFq h3) aN))))))))))))))))))))))))))))))))))))))).le (k_ptttf h0 h1 h2 h3)
      · exact (CallSpec.id (go_ok (exec_ok tnamed tcalm tmixed _ _ _ _) (on_ok_pttf a0 a1 b0 b1 p0 p1 c hc ) (aC (hc) (aC (dTq h0) (aC (dTq h0) (aC (dTq h0) (aC (dTq h0) (aC (dTq h0) (aC (dTq h0) (aC (dTq h0) (aC (dTq h0) (aC (dTq h0) (aC (dTq h1) (aC (dTq h1) (aC (dTq h1) (aC (dTq h1) (aC (dTq h1) (aC (dTq h1) (aC (dTq h1) (aC (dTq h1) (aC (dTq h1) (aC (dFq h2) (aC (dFq h2) (aC (dFq h2) (aC (dFq h2) (aC (dFq h2) (aC (dFq h2) (aC (dFq h2) (aC (dFq h2) (aC (dFq h2) aN)))))))))))))))))))))))))))))).le (k_pttf h0 h1 h2)
    · exact (CallSpec.id (go_ok (exec_ok tnamed tcalm tmixed _ _ _ _) (on_ok_ptf a0 a1 b0 b1 p0 p1 c hc ) (aC (hc) (aC (dTq h0) (aC (dTq h0) (aC (dTq h0) (aC (dTq h0) (aC (dTq h0) (aC (dTq h0) (aC (dTq h0) (aC (dTq h0) (aC (dTq h0) (aC (dFq h1) (aC (dFq h1) (aC (dFq h1) (aC (dFq h1) (aC (dFq h1) (aC (dFq h1) (aC (dFq h1) (aC (dFq h1) (aC (dFq h1) aN))))))))))))))))))))).le (k_ptf h0 h1)
  · exact (CallSpec.id (go_ok (exec_ok tnamed tcalm tmixed _ _ _ _) (on_ok_pf a0 a1 b0 b1 p0 p1 c hc ) (aC (hc) (aC (dFq h0) (aC (dFq h0) (aC (dFq h0) (aC (dFq h0) (aC (dFq h0) (aC (dFq h0) (aC (dFq h0) (aC (dFq h0) (aC (dFq h0) aN)))))))))))).le (k_pf h0)
end
section
variable (a0 a1 b0 b1 p0 p1 : Int)
include a0 a1 b0 b1 p0 p1
theorem rcross_ok_p : go (exec (Try.prog) (8) (77) ([pV a0 a1, pV b0 b1, pV p0 p1]) ([])) [] = some (.mk (.int .i64 (IntKind.wrap .i64 (IntKind.wrap .i64 (IntKind.wrap .i64 (b0 - a0) * IntKind.wrap .i64 (p1 - a1)) - IntKind.wrap .i64 (IntKind.wrap .i64 (b1 - a1) * IntKind.wrap .i64 (p0 - a0))))) [] [], true, []) := by kernel_rfl
theorem rcross_ok (R : Res) (k_p : Res.le (.mk (.int .i64 (IntKind.wrap .i64 (IntKind.wrap .i64 (IntKind.wrap .i64 (b0 - a0) * IntKind.wrap .i64 (p1 - a1)) - IntKind.wrap .i64 (IntKind.wrap .i64 (b1 - a1) * IntKind.wrap .i64 (p0 - a0))))) [] []) R) : CallSpec (Try.prog) (77) ([pV a0 a1, pV b0 b1, pV p0 p1]) ([]) R := by
  exact (CallSpec.id (go_ok (exec_ok tnamed tcalm tmixed _ _ _ _) (rcross_ok_p a0 a1 b0 b1 p0 p1 ) aN)).le (k_p )
end
section
variable (n : Int)
include n
theorem sign_ok_pt : go (exec (Try.prog) (8) (97) ([.int .i64 n]) ([])) [(6, .dec true)] = some (.mk (.int .i64 1) [] [], true, [decide (n > 0) = true]) := by kernel_rfl
theorem sign_ok_pft : go (exec (Try.prog) (8) (97) ([.int .i64 n]) ([])) [(6, .dec false), (3, .dec true)] = some (.mk (.int .i64 (-1)) [] [], true, [decide (n > 0) = false, decide (n < 0) = true]) := by kernel_rfl
theorem sign_ok_pff : go (exec (Try.prog) (8) (97) ([.int .i64 n]) ([])) [(6, .dec false), (3, .dec false)] = some (.mk (.int .i64 0) [] [], true, [decide (n > 0) = false, decide (n < 0) = false]) := by kernel_rfl
theorem sign_ok (R : Res) (k_pt : (h0 : n > 0) → Res.le (.mk (.int .i64 1) [] []) R) (k_pft : (h0 : ¬ (n > 0)) → (h1 : n < 0) → Res.le (.mk (.int .i64 (-1)) [] []) R) (k_pff : (h0 : ¬ (n > 0)) → (h1 : ¬ (n < 0)) → Res.le (.mk (.int .i64 0) [] []) R) : CallSpec (Try.prog) (97) ([.int .i64 n]) ([]) R := by
  by_cases h0 : n > 0
  · exact (CallSpec.id (go_ok (exec_ok tnamed tcalm tmixed _ _ _ _) (sign_ok_pt n ) (aC (dTq h0) aN))).le (k_pt h0)
  · by_cases h1 : n < 0
    · exact (CallSpec.id (go_ok (exec_ok tnamed tcalm tmixed _ _ _ _) (sign_ok_pft n ) (aC (dFq h0) (aC (dTq h1) aN)))).le (k_pft h0 h1)
    · exact (CallSpec.id (go_ok (exec_ok tnamed tcalm tmixed _ _ _ _) (sign_ok_pff n ) (aC (dFq h0) (aC (dFq h1) aN)))).le (k_pff h0 h1)
end
end Go.Proofs.Ytjalkjeldlchoaa.Ex
end
section
set_option linter.unusedSectionVars false
set_option linter.unusedSimpArgs false
set_option linter.unusedVariables false
namespace Go.Proofs.Ytjalkjeldlchoaa.Ex
open Go Go.RowKit Go.Proofs.Ytjalkjeldlchoaa.X
set_option linter.unusedVariables false
theorem w64_i (n : Int) : IntKind.wrap IntKind.i64 n = wrap64 n := IntWalk.i64_left n
theorem res_v {v v' : Value} {hp : Hp} {wr : List Nat} (h : v = v') : Res.le ⟨v, hp, wr⟩ ⟨v', hp, wr⟩ := ⟨h, rfl, fun j hj => hj⟩
theorem res_b {b b' : Bool} {hp : Hp} {wr : List Nat} (h : b = b') : Res.le ⟨.bool b, hp, wr⟩ ⟨.bool b', hp, wr⟩ := res_v (by rw [h])
theorem res_i {b b' : Int} {k : IntKind} {hp : Hp} {wr : List Nat} (h : b = b') : Res.le ⟨.int k b, hp, wr⟩ ⟨.int k b', hp, wr⟩ := res_v (by rw [h])
theorem cross_done (a0 a1 b0 b1 p0 p1 : Int) : CallSpec Try.prog 90 [pV a0 a1, pV b0 b1, pV p0 p1] [] ⟨.int .i64 (crossW a0 a1 b0 b1 p0 p1), [], []⟩ :=
  cross_ok _ _ _ _ _ _ _ (res_i (by simp only [w64_i]; rfl))
theorem rcross_done (a0 a1 b0 b1 p0 p1 : Int) : CallSpec Try.prog 77 [pV a0 a1, pV b0 b1, pV p0 p1] [] ⟨.int .i64 (crossW a0 a1 b0 b1 p0 p1), [], []⟩ :=
  rcross_ok _ _ _ _ _ _ _ (res_i (by simp only [w64_i]; rfl))
theorem turn_done (a0 a1 b0 b1 p0 p1 : Int) : CallSpec Try.prog 70 [pV a0 a1, pV b0 b1, pV p0 p1] [] ⟨.int .i64 (turnV a0 a1 b0 b1 p0 p1), [], []⟩ := by
  refine turn_ok _ _ _ _ _ _ _ (cross_done _ _ _ _ _ _) _ (fun h => res_i ?_) (fun h g => res_i ?_) (fun h g => res_i ?_)
  all_goals unfold turnV sgnI
  · rw [if_neg (by omega), if_pos h]
  · rw [if_pos g]
  · rw [if_neg g, if_neg h]
theorem over_done (a b c d : Int) : CallSpec Try.prog 71 [.int .i64 a, .int .i64 b, .int .i64 c, .int .i64 d] [] ⟨.bool (overV a b c d), [], []⟩ := by
  refine over_ok _ _ _ _ _ (fun h => res_b ?_) (fun h => res_b ?_)
  · unfold overV mx mn
    rw [decide_eq_true h, Bool.true_and]
  · unfold overV mx mn
    rw [decide_eq_false h, Bool.false_and]
theorem spike_done (a0 a1 b0 b1 p0 p1 : Int) : CallSpec Try.prog 92 [pV a0 a1, pV b0 b1, pV p0 p1] [] ⟨.bool (spikeV a0 a1 b0 b1 p0 p1), [], []⟩ := by
  refine spike_ok _ _ _ _ _ _ _ (cross_done _ _ _ _ _ _) _ (fun h => res_b ?_) (fun h => res_b ?_)
  · unfold spikeV
    rw [if_pos h]
    simp only [w64_i]
  · unfold spikeV
    rw [if_neg h]
theorem fits_done (x y : Int) : CallSpec Try.prog 49 [pV x y] [] ⟨.bool (!outP ⟨x, y⟩), [], []⟩ := by
  refine fits_ok _ _ _ (fun h g k => res_b ?_) (fun h g k => res_b ?_) (fun h g => res_b ?_) (fun h => res_b ?_)
  all_goals simp only [outP]
  · rw [← decide_not, decide_eq_decide]; omega
  · rw [decide_eq_true (by omega)]; rfl
  · rw [decide_eq_true (by omega)]; rfl
  · rw [decide_eq_true (by omega)]; rfl
theorem on_done (a0 a1 b0 b1 p0 p1 : Int) : CallSpec Try.prog 76 [pV a0 a1, pV b0 b1, pV p0 p1] [] ⟨.bool (onV a0 a1 b0 b1 p0 p1), [], []⟩ := by
  refine on_ok _ _ _ _ _ _ _ (rcross_done _ _ _ _ _ _) _ (fun h g k l => res_b ?_) (fun h g k l => res_b ?_) (fun h g k => res_b ?_) (fun h g => res_b ?_) (fun h => res_b ?_)
  all_goals unfold onV mn mx
  · rw [if_pos h, if_pos g, if_pos k, if_pos l]
  · rw [if_pos h, if_pos g, if_pos k, if_neg l]
  · rw [if_pos h, if_pos g, if_neg k]
  · rw [if_pos h, if_neg g]
  · rw [if_neg h]
theorem sign_done (n : Int) : CallSpec Try.prog 97 [.int .i64 n] [] ⟨.int .i64 (sgnI n), [], []⟩ := by
  refine sign_ok _ _ (fun h => res_i ?_) (fun h g => res_i ?_) (fun h g => res_i ?_)
  all_goals unfold sgnI
  · rw [if_pos h]
  · rw [if_neg h, if_pos g]
  · rw [if_neg h, if_neg g]
def farV (a0 a1 b0 b1 : Int) : Int := wrap64 (wrap64 (wrap64 (a0 - b0) * wrap64 (a0 - b0)) + wrap64 (wrap64 (a1 - b1) * wrap64 (a1 - b1)))
def farA (a0 a1 b0 b1 : Int) : Int := if outP ⟨a0, a1⟩ = true ∨ outP ⟨b0, b1⟩ = true then 0 else farV a0 a1 b0 b1
def farE (a0 a1 b0 b1 : Int) : Int := if outP ⟨a0, a1⟩ = true ∨ outP ⟨b0, b1⟩ = true then 5 else 0
end Go.Proofs.Ytjalkjeldlchoaa.Ex
end
section
set_option linter.unusedSectionVars false
set_option linter.unusedSimpArgs false
set_option linter.unusedVariables false
namespace Go.Proofs.Ytjalkjeldlchoaa.Ex
open Go
set_option linter.unusedVariables false
section
variable (a b : Int)
include a b
theorem may2_ok_pt : go (exec (Try.prog) (8) (55) ([(sB 0 2 2)]) ([.own 3 [.int .i64 a, .int .i64 b]])) [(59, .dec true), (1, .dec true), (53, .dec true), (1, .dec true)] = some (.mk (.bool (decide ((if b > a then b else a) ≤ 536870912))) [.own 3 [.int .i64 a, .int .i64 b]] [], true, [decide ((if b < a then b else a) ≥ -536870912) = true, decide ((if b < a then b else a) ≥ -536870912) = true, decide ((if b < a then b else a) ≥ -536870912) = true, decide ((if b < a then b else a) ≥ -536870912) = true]) := by kernel_rfl
theorem may2_ok_pf : go (exec (Try.prog) (8) (55) ([(sB 0 2 2)]) ([.own 3 [.int .i64 a, .int .i64 b]])) [(59, .dec false), (0, .dec false), (0, .dec false), (0, .dec false)] = some (.mk (.bool false) [.own 3 [.int .i64 a, .int .i64 b]] [], true, [decide ((if b < a then b else a) ≥ -536870912) = false, decide ((if b < a then b else a) ≥ -536870912) = false, decide ((if b < a then b else a) ≥ -536870912) = false, decide ((if b < a then b else a) ≥ -536870912) = false]) := by kernel_rfl
theorem may2_ok (R : Res) (k_pt : (h0 : (if b < a then b else a) ≥ -536870912) → Res.le (.mk (.bool (decide ((if b > a then b else a) ≤ 536870912))) [.own 3 [.int .i64 a, .int .i64 b]] []) R) (k_pf : (h0 : ¬ ((if b < a then b else a) ≥ -536870912)) → Res.le (.mk (.bool false) [.own 3 [.int .i64 a, .int .i64 b]] []) R) : CallSpec (Try.prog) (55) ([(sB 0 2 2)]) ([.own 3 [.int .i64 a, .int .i64 b]]) R := by
  by_cases h0 : (if b < a then b else a) ≥ -536870912
  · exact (CallSpec.id (go_ok (exec_ok tnamed tcalm tmixed _ _ _ _) (may2_ok_pt a b ) (aC (dTq h0) (aC (dTq h0) (aC (dTq h0) (aC (dTq h0) aN)))))).le (k_pt h0)
  · exact (CallSpec.id (go_ok (exec_ok tnamed tcalm tmixed _ _ _ _) (may2_ok_pf a b ) (aC (dFq h0) (aC (dFq h0) (aC (dFq h0) (aC (dFq h0) aN)))))).le (k_pf h0)
end
section
variable (a b c d : Int)
include a b c d
theorem may4_ok_pt : go (exec (Try.prog) (8) (55) ([(sB 0 4 4)]) ([.own 3 [.int .i64 a, .int .i64 b, .int .i64 c, .int .i64 d]])) [(101, .dec true), (1, .dec true), (95, .dec true), (1, .dec true)] = some (.mk (.bool (decide ((if d > if c > if b > a then b else a then c else if b > a then b else a then d else if c > if b > a then b else a then c else if b > a then b else a) ≤ 536870912))) [.own 3 [.int .i64 a, .int .i64 b, .int .i64 c, .int .i64 d]] [], true, [decide ((if d < if c < if b < a then b else a then c else if b < a then b else a then d else if c < if b < a then b else a then c else if b < a then b else a) ≥ -536870912) = true, decide ((if d < if c < if b < a then b else a then c else if b < a then b else a then d else if c < if b < a then b else a then c else if b < a then b else a) ≥ -536870912) = true, decide ((if d < if c < if b < a then b else a then c else if b < a then b else a then d else if c < if b < a then b else a then c else if b < a then b else a) ≥ -536870912) = true, decide ((if d < if c < if b < a then b else a then c else if b < a then b else a then d else if c < if b < a then b else a then c else if b < a then b else a) ≥ -536870912) = true]) := by kernel_rfl
theorem may4_ok_pf : go (exec (Try.prog) (8) (55) ([(sB 0 4 4)]) ([.own 3 [.int .i64 a, .int .i64 b, .int .i64 c, .int .i64 d]])) [(101, .dec false), (0, .dec false), (0, .dec false), (0, .dec false)] = some (.mk (.bool false) [.own 3 [.int .i64 a, .int .i64 b, .int .i64 c, .int .i64 d]] [], true, [decide ((if d < if c < if b < a then b else a then c else if b < a then b else a then d else if c < if b < a then b else a then c else if b < a then b else a) ≥ -536870912) = false, decide ((if d < if c < if b < a then b else a then c else if b < a then b else a then d else if c < if b < a then b else a then c else if b < a then b else a) ≥ -536870912) = false, decide ((if d < if c < if b < a then b else a then c else if b < a then b else a then d else if c < if b < a then b else a then c else if b < a then b else a) ≥ -536870912) = false, decide ((if d < if c < if b < a then b else a then c else if b < a then b else a then d else if c < if b < a then b else a then c else if b < a then b else a) ≥ -536870912) = false]) := by kernel_rfl
theorem may4_ok (R : Res) (k_pt : (h0 : (if d < if c < if b < a then b else a then c else if b < a then b else a then d else if c < if b < a then b else a then c else if b < a then b else a) ≥ -536870912) → Res.le (.mk (.bool (decide ((if d > if c > if b > a then b else a then c else if b > a then b else a then d else if c > if b > a then b else a then c else if b > a then b else a) ≤ 536870912))) [.own 3 [.int .i64 a, .int .i64 b, .int .i64 c, .int .i64 d]] []) R) (k_pf : (h0 : ¬ ((if d < if c < if b < a then b else a then c else if b < a then b else a then d else if c < if b < a then b else a then c else if b < a then b else a) ≥ -536870912)) → Res.le (.mk (.bool false) [.own 3 [.int .i64 a, .int .i64 b, .int .i64 c, .int .i64 d]] []) R) : CallSpec (Try.prog) (55) ([(sB 0 4 4)]) ([.own 3 [.int .i64 a, .int .i64 b, .int .i64 c, .int .i64 d]]) R := by
  by_cases h0 : (if d < if c < if b < a then b else a then c else if b < a then b else a then d else if c < if b < a then b else a then c else if b < a then b else a) ≥ -536870912
  · exact (CallSpec.id (go_ok (exec_ok tnamed tcalm tmixed _ _ _ _) (may4_ok_pt a b c d ) (aC (dTq h0) (aC (dTq h0) (aC (dTq h0) (aC (dTq h0) aN)))))).le (k_pt h0)
  · exact (CallSpec.id (go_ok (exec_ok tnamed tcalm tmixed _ _ _ _) (may4_ok_pf a b c d ) (aC (dFq h0) (aC (dFq h0) (aC (dFq h0) (aC (dFq h0) aN)))))).le (k_pf h0)
end
section
variable (a b c d e f : Int)
include a b c d e f
theorem up_ok_pt : go (exec (Try.prog) (8) (51) ([(sB 0 3 3), Value.func (Fn.func 52) #[] #[]]) ([.own 32 [.int .i64 a, .int .i64 b, .int .i64 c, .int .i64 d, .int .i64 e, .int .i64 f]])) [(49, .dec true)] = some (.mk (.bool true) [.own 32 [.int .i64 a, .int .i64 b, .int .i64 c, .int .i64 d, .int .i64 e, .int .i64 f]] [], true, [decide (a > b) = true]) := by kernel_rfl
theorem up_ok_pft : go (exec (Try.prog) (8) (51) ([(sB 0 3 3), Value.func (Fn.func 52) #[] #[]]) ([.own 32 [.int .i64 a, .int .i64 b, .int .i64 c, .int .i64 d, .int .i64 e, .int .i64 f]])) [(49, .dec false), (38, .dec true)] = some (.mk (.bool true) [.own 32 [.int .i64 a, .int .i64 b, .int .i64 c, .int .i64 d, .int .i64 e, .int .i64 f]] [], true, [decide (a > b) = false, decide (c > d) = true]) := by kernel_rfl
theorem up_ok_pfft : go (exec (Try.prog) (8) (51) ([(sB 0 3 3), Value.func (Fn.func 52) #[] #[]]) ([.own 32 [.int .i64 a, .int .i64 b, .int .i64 c, .int .i64 d, .int .i64 e, .int .i64 f]])) [(49, .dec false), (38, .dec false), (38, .dec true)] = some (.mk (.bool true) [.own 32 [.int .i64 a, .int .i64 b, .int .i64 c, .int .i64 d, .int .i64 e, .int .i64 f]] [], true, [decide (a > b) = false, decide (c > d) = false, decide (e > f) = true]) := by kernel_rfl
theorem up_ok_pfff : go (exec (Try.prog) (8) (51) ([(sB 0 3 3), Value.func (Fn.func 52) #[] #[]]) ([.own 32 [.int .i64 a, .int .i64 b, .int .i64 c, .int .i64 d, .int .i64 e, .int .i64 f]])) [(49, .dec false), (38, .dec false), (38, .dec false)] = some (.mk (.bool false) [.own 32 [.int .i64 a, .int .i64 b, .int .i64 c, .int .i64 d, .int .i64 e, .int .i64 f]] [], true, [decide (a > b) = false, decide (c > d) = false, decide (e > f) = false]) := by kernel_rfl
theorem up_ok (R : Res) (k_pt : (h0 : a > b) → Res.le (.mk (.bool true) [.own 32 [.int .i64 a, .int .i64 b, .int .i64 c, .int .i64 d, .int .i64 e, .int .i64 f]] []) R) (k_pft : (h0 : ¬ (a > b)) → (h1 : c > d) → Res.le (.mk (.bool true) [.own 32 [.int .i64 a, .int .i64 b, .int .i64 c, .int .i64 d, .int .i64 e, .int .i64 f]] []) R) (k_pfft : (h0 : ¬ (a > b)) → (h1 : ¬ (c > d)) → (h2 : e > f) → Res.le (.mk (.bool true) [.own 32 [.int .i64 a, .int .i64 b, .int .i64 c, .int .i64 d, .int .i64 e, .int .i64 f]] []) R) (k_pfff : (h0 : ¬ (a > b)) → (h1 : ¬ (c > d)) → (h2 : ¬ (e > f)) → Res.le (.mk (.bool false) [.own 32 [.int .i64 a, .int .i64 b, .int .i64 c, .int .i64 d, .int .i64 e, .int .i64 f]] []) R) : CallSpec (Try.prog) (51) ([(sB 0 3 3), Value.func (Fn.func 52) #[] #[]]) ([.own 32 [.int .i64 a, .int .i64 b, .int .i64 c, .int .i64 d, .int .i64 e, .int .i64 f]]) R := by
  by_cases h0 : a > b
  · exact (CallSpec.id (go_ok (exec_ok tnamed tcalm tmixed _ _ _ _) (up_ok_pt a b c d e f ) (aC (dTq h0) aN))).le (k_pt h0)
  · by_cases h1 : c > d
    · exact (CallSpec.id (go_ok (exec_ok tnamed tcalm tmixed _ _ _ _) (up_ok_pft a b c d e f ) (aC (dFq h0) (aC (dTq h1) aN)))).le (k_pft h0 h1)
    · by_cases h2 : e > f
      · exact (CallSpec.id (go_ok (exec_ok tnamed tcalm tmixed _ _ _ _) (up_ok_pfft a b c d e f ) (aC (dFq h0) (aC (dFq h1) (aC (dTq h2) aN))))).le (k_pfft h0 h1 h2)
      · exact (CallSpec.id (go_ok (exec_ok tnamed tcalm tmixed _ _ _ _) (up_ok_pfff a b c d e f ) (aC (dFq h0) (aC (dFq h1) (aC (dFq h2) aN))))).le (k_pfff h0 h1 h2)
end
end Go.Proofs.Ytjalkjeldlchoaa.Ex
end
section
set_option linter.unusedSectionVars false
set_option linter.unusedSimpArgs false
set_option linter.unusedVariables false
namespace Go.Proofs.Ytjalkjeldlchoaa.X
def inQ (x : Int) : Bool := decide (-536870912 ≤ x ∧ x ≤ 536870912)
theorem inQ_iff {x : Int} : inQ x = true ↔ InB x := decide_eq_true_iff
end Go.Proofs.Ytjalkjeldlchoaa.X
namespace Go.Proofs.Ytjalkjeldlchoaa.Ex
open Go Go.RowKit Go.Proofs.Ytjalkjeldlchoaa.X
set_option linter.unusedVariables false
theorem may2_done (a b : Int) : CallSpec Try.prog 55 [.slice (some ⟨0, 0, none⟩) 2 2] [.own 3 [.int .i64 a, .int .i64 b]] ⟨.bool (inQ a && inQ b), [.own 3 [.int .i64 a, .int .i64 b]], []⟩ := by
  refine may2_ok _ _ _ (fun h => res_b ?_) (fun h => res_b ?_)
  · unfold inQ
    rw [← Bool.decide_and, decide_eq_decide]
    split at h <;> split <;> omega
  · unfold inQ
    rw [← Bool.decide_and, eq_comm, decide_eq_false_iff_not]
    split at h <;> omega
theorem may4_done (a b c d : Int) : CallSpec Try.prog 55 [.slice (some ⟨0, 0, none⟩) 4 4] [.own 3 [.int .i64 a, .int .i64 b, .int .i64 c, .int .i64 d]] ⟨.bool ((inQ a && inQ b) && (inQ c && inQ d)), [.own 3 [.int .i64 a, .int .i64 b, .int .i64 c, .int .i64 d]], []⟩ := by
  have mn_ : ∀ x y : Int, (if y < x then y else x) = min x y := fun x y => by rw [Int.min_def]; split <;> split <;> omega
  have mx_ : ∀ x y : Int, (if y > x then y else x) = max x y := fun x y => by rw [Int.max_def]; split <;> split <;> omega
  refine may4_ok _ _ _ _ _ (fun h => res_b ?_) (fun h => res_b ?_)
  · unfold inQ
    simp only [mn_, mx_] at h ⊢
    simp only [← Bool.decide_and, decide_eq_decide]
    omega
  · unfold inQ
    simp only [mn_] at h
    simp only [← Bool.decide_and]
    rw [eq_comm, decide_eq_false_iff_not]
    omega
theorem up_done (a b c d e f : Int) : CallSpec Try.prog 51 [.slice (some ⟨0, 0, none⟩) 3 3, .func (.func 52) #[] #[]] [.own 32 [.int .i64 a, .int .i64 b, .int .i64 c, .int .i64 d, .int .i64 e, .int .i64 f]] ⟨.bool (decide (a > b ∨ c > d ∨ e > f)), [.own 32 [.int .i64 a, .int .i64 b, .int .i64 c, .int .i64 d, .int .i64 e, .int .i64 f]], []⟩ := by
  refine up_ok _ _ _ _ _ _ _ (fun h => res_b ?_) (fun h g => res_b ?_) (fun h g k => res_b ?_) (fun h g k => res_b ?_)
  · rw [eq_comm, decide_eq_true_iff]; omega
  · rw [eq_comm, decide_eq_true_iff]; omega
  · rw [eq_comm, decide_eq_true_iff]; omega
  · rw [eq_comm, decide_eq_false_iff_not]; omega
end Go.Proofs.Ytjalkjeldlchoaa.Ex
end
section
set_option linter.unusedSectionVars false
set_option linter.unusedSimpArgs false
set_option linter.unusedVariables false
namespace Go.Proofs.Ytjalkjeldlchoaa.Ex
open Go
set_option linter.unusedVariables false
section
variable (a0 a1 b0 b1 c0 c1 d0 d1 : Int)
include a0 a1 b0 b1 c0 c1 d0 d1
theorem meet_ok_pttt : go (exec (Try.prog) (8) (93) ([pV a0 a1, pV b0 b1, pV c0 c1, pV d0 d1]) ([])) [(31, .call (.mk (.bool (X.overV a0 b0 c0 d0)) [] [])), (3, .dec true), (1, .dec true), (3, .dec true), (1, .dec true), (3, .dec true), (1, .dec true), (3, .dec true), (1, .dec true), (3, .dec true), (0, .call (.mk (.bool (X.overV a1 b1 c1 d1)) [] [])), (2, .dec true), (2, .dec true), (2, .dec true), (2, .dec true), (2, .dec true), (0, .call (.mk (.int .i64 (X.turnV a0 a1 b0 b1 c0 c1)) [] [])), (2, .dec true), (2, .dec true), (2, .dec true), (2, .dec true), (0, .call (.mk (.int .i64 (X.turnV a0 a1 b0 b1 d0 d1)) [] [])), (2, .dec true), (1, .dec true), (1, .dec true), (2, .dec true), (2, .dec true), (2, .dec true), (2, .dec true), (0, .call (.mk (.int .i64 (X.turnV c0 c1 d0 d1 a0 a1)) [] [])), (2, .dec true), (2, .dec true), (2, .dec true), (2, .dec true), (0, .call (.mk (.int .i64 (X.turnV c0 c1 d0 d1 b0 b1)) [] [])), (2, .dec true), (1, .dec true), (1, .dec true)] = some (.mk (.bool (decide (IntKind.wrap .i64 (X.turnV c0 c1 d0 d1 a0 a1 * X.turnV c0 c1 d0 d1 b0 b1) ≤ 0))) [] [], true, [CallSpec Try.prog 71 [.int .i64 a0, .int .i64 b0, .int .i64 c0, .int .i64 d0] [] (.mk (.bool (X.overV a0 b0 c0 d0)) [] []), X.overV a0 b0 c0 d0 = true, X.overV a0 b0 c0 d0 = true, X.overV a0 b0 c0 d0 = true, X.overV a0 b0 c0 d0 = true, X.overV a0 b0 c0 d0 = true, X.overV a0 b0 c0 d0 = true, X.overV a0 b0 c0 d0 = true, X.overV a0 b0 c0 d0 = true, X.overV a0 b0 c0 d0 = true, CallSpec Try.prog 71 [.int .i64 a1, .int .i64 b1, .int .i64 c1, .int .i64 d1] [] (.mk (.bool (X.overV a1 b1 c1 d1)) [] []), X.overV a0 b0 c0 d0 = true, X.overV a1 b1 c1 d1 = true, X.overV a1 b1 c1 d1 = true, X.overV a1 b1 c1 d1 = true, X.overV a1 b1 c1 d1 = true, CallSpec Try.prog 70 [(a2 a0 a1), (a2 b0 b1), (a2 c0 c1)] [] (.mk (.int .i64 (X.turnV a0 a1 b0 b1 c0 c1)) [] []), X.overV a1 b1 c1 d1 = true, X.overV a1 b1 c1 d1 = true, X.overV a1 b1 c1 d1 = true, X.overV a1 b1 c1 d1 = true, CallSpec Try.prog 70 [(a2 a0 a1), (a2 b0 b1), (a2 d0 d1)] [] (.mk (.int .i64 (X.turnV a0 a1 b0 b1 d0 d1)) [] []), X.overV a1 b1 c1 d1 = true, X.overV a1 b1 c1 d1 = true, X.overV a1 b1 c1 d1 = true, decide (IntKind.wrap .i64 (X.turnV a0 a1 b0 b1 c0 c1 * X.turnV a0 a1 b0 b1 d0 d1) ≤ 0) = true, decide (IntKind.wrap .i64 (X.turnV a0 a1 b0 b1 c0 c1 * X.turnV a0 a1 b0 b1 d0 d1) ≤ 0) = true, decide (IntKind.wrap .i64 (X.turnV a0 a1 b0 b1 c0 c1 * X.turnV a0 a1 b0 b1 d0 d1) ≤ 0) = true, decide (IntKind.wrap .i64 (X.turnV a0 a1 b0 b1 c0 c1 * X.turnV a0 a1 b0 b1 d0 d1) ≤ 0) = true, CallSpec Try.prog 70 [(a2 c0 c1), (a2 d0 d1), (a2 a0 a1)] [] (.mk (.int .i64 (X.turnV c0 c1 d0 d1 a0 a1)) [] []), decide (IntKind.wrap .i64 (X.turnV a0 a1 b0 b1 c0 c1 * X.turnV a0 a1 b0 b1 d0 d1) ≤ 0) = true, decide (IntKind.wrap .i64 (X.turnV a0 a1 b0 b1 c0 c1 * X.turnV a0 a1 b0 b1 d0 d1) ≤ 0) = true, decide (IntKind.wrap .i64 (X.turnV a0 a1 b0 b1 c0 c1 * X.turnV a0 a1 b0 b1 d0 d1) ≤ 0) = true, decide (IntKind.wrap .i64 (X.turnV a0 a1 b0 b1 c0 c1 * X.turnV a0 a1 b0 b1 d0 d1) ≤ 0) = true, CallSpec Try.prog 70 [(a2 c0 c1), (a2 d0 d1), (a2 b0 b1)] [] (.mk (.int .i64 (X.turnV c0 c1 d0 d1 b0 b1)) [] []), decide (IntKind.wrap .i64 (X.turnV a0 a1 b0 b1 c0 c1 * X.turnV a0 a1 b0 b1 d0 d1) ≤ 0) = true, decide (IntKind.wrap .i64 (X.turnV a0 a1 b0 b1 c0 c1 * X.turnV a0 a1 b0 b1 d0 d1) ≤ 0) = true, decide (IntKind.wrap .i64 (X.turnV a0 a1 b0 b1 c0 c1 * X.turnV a0 a1 b0 b1 d0 d1) ≤ 0) = true]) := by kernel_rfl
theorem meet_ok_pttf : go (exec (Try.prog) (8) (93) ([pV a0 a1, pV b0 b1, pV c0 c1, pV d0 d1]) ([])) [(31, .call (.mk (.bool (X.overV a0 b0 c0 d0)) [] [])), (3, .dec true), (1, .dec true), (3, .dec true), (1, .dec true), (3, .dec true), (1, .dec true), (3, .dec true), (1, .dec true), (3, .dec true), (0, .call (.mk (.bool (X.overV a1 b1 c1 d1)) [] [])), (2, .dec true), (2, .dec true), (2, .dec true), (2, .dec true), (2, .dec true), (0, .call (.mk (.int .i64 (X.turnV a0 a1 b0 b1 c0 c1)) [] [])), (2, .dec true), (2, .dec true), (2, .dec true), (2, .dec true), (0, .call (.mk (.int .i64 (X.turnV a0 a1 b0 b1 d0 d1)) [] [])), (2, .dec true), (1, .dec true), (1, .dec true), (2, .dec false), (0, .dec false), (0, .dec false), (0, .dec false), (0, .dec false), (0, .dec false), (0, .dec false), (0, .dec false), (0, .dec false), (0, .dec false), (0, .dec false)] = some (.mk (.bool false) [] [], true, [CallSpec Try.prog 71 [.int .i64 a0, .int .i64 b0, .int .i64 c0, .int .i64 d0] [] (.mk (.bool (X.overV a0 b0 c0 d0)) [] []), X.overV a0 b0 c0 d0 = true, X.overV a0 b0 c0 d0 = true, X.overV a0 b0 c0 d0 = true, X.overV a0 b0 c0 d0 = true, X.overV a0 b0 c0 d0 = true, X.overV a0 b0 c0 d0 = true, X.overV a0 b0 c0 d0 = true, X.overV a0 b0 c0 d0 = true, X.overV a0 b0 c0 d0 = true, CallSpec Try.prog 71 [.int .i64 a1, .int .i64 b1, .int .i64 c1, .int .i64 d1] [] (.mk (.bool (X.overV a1 b1 c1 d1)) [] []), X.overV a0 b0 c0 d0 = true, X.overV a1 b1 c1 d1 = true, X.overV a1 b1 c1 d1 = true, X.overV a1 b1 c1 d1 = true, X.overV a1 b1 c1 d1 = true, CallSpec Try.prog 70 [(a2 a0 a1), (a2 b0 b1), (a2 c0 c1)] [] (.mk (.int .i64 (X.turnV a0 a1 b0 b1 c0 c1)) [] []), X.overV a1 b1 c1 d1 = true, X.overV a1 b1 c1 d1 = true, X.overV a1 b1 c1 d1 = true, X.overV a1 b1 c1 d1 = true, CallSpec Try.prog 70 [(a2 a0 a1), (a2 b0 b1), (a2 d0 d1)] [] (.mk (.int .i64 (X.turnV a0 a1 b0 b1 d0 d1)) [] []), X.overV a1 b1 c1 d1 = true, X.overV a1 b1 c1 d1 = true, X.overV a1 b1 c1 d1 = true, decide (IntKind.wrap .i64 (X.turnV a0 a1 b0 b1 c0 c1 * X.turnV a0 a1 b0 b1 d0 d1) ≤ 0) = false, decide (IntKind.wrap .i64 (X.turnV a0 a1 b0 b1 c0 c1 * X.turnV a0 a1 b0 b1 d0 d1) ≤ 0) = false, decide (IntKind.wrap .i64 (X.turnV a0 a1 b0 b1 c0 c1 * X.turnV a0 a1 b0 b1 d0 d1) ≤ 0) = false, decide (IntKind.wrap .i64 (X.turnV a0 a1 b0 b1 c0 c1 * X.turnV a0 a1 b0 b1 d0 d1) ≤ 0) = false, decide (IntKind.wrap .i64 (X.turnV a0 a1 b0 b1 c0 c1 * X.turnV a0 a1 b0 b1 d0 d1) ≤ 0) = false, decide (IntKind.wrap .i64 (X.turnV a0 a1 b0 b1 c0 c1 * X.turnV a0 a1 b0 b1 d0 d1) ≤ 0) = false, decide (IntKind.wrap .i64 (X.turnV a0 a1 b0 b1 c0 c1 * X.turnV a0 a1 b0 b1 d0 d1) ≤ 0) = false, decide (IntKind.wrap .i64 (X.turnV a0 a1 b0 b1 c0 c1 * X.turnV a0 a1 b0 b1 d0 d1) ≤ 0) = false, decide (IntKind.wrap .i64 (X.turnV a0 a1 b0 b1 c0 c1 * X.turnV a0 a1 b0 b1 d0 d1) ≤ 0) = false, decide (IntKind.wrap .i64 (X.turnV a0 a1 b0 b1 c0 c1 * X.turnV a0 a1 b0 b1 d0 d1) ≤ 0) = false, decide (IntKind.wrap .i64 (X.turnV a0 a1 b0 b1 c0 c1 * X.turnV a0 a1 b0 b1 d0 d1) ≤ 0) = false]) := by kernel_rfl
theorem meet_ok_ptf : go (exec (Try.prog) (8) (93) ([pV a0 a1, pV b0 b1, pV c0 c1, pV d0 d1]) ([])) [(31, .call (.mk (.bool (X.overV a0 b0 c0 d0)) [] [])), (3, .dec true), (1, .dec true), (3, .dec true), (1, .dec true), (3, .dec true), (1, .dec true), (3, .dec true), (1, .dec true), (3, .dec true), (0, .call (.mk (.bool (X.overV a1 b1 c1 d1)) [] [])), (2, .dec true), (2, .dec false), (0, .dec false), (0, .dec false), (0, .dec false), (0, .dec false), (0, .dec false), (0, .dec false), (0, .dec false), (0, .dec false), (0, .dec false), (0, .dec false)] = some (.mk (.bool false) [] [], true, [CallSpec Try.prog 71 [.int .i64 a0, .int .i64 b0, .int .i64 c0, .int .i64 d0] [] (.mk (.bool (X.overV a0 b0 c0 d0)) [] []), X.overV a0 b0 c0 d0 = true, X.overV a0 b0 c0 d0 = true, X.overV a0 b0 c0 d0 = true, X.overV a0 b0 c0 d0 = true, X.overV a0 b0 c0 d0 = true, X.overV a0 b0 c0 d0 = true, X.overV a0 b0 c0 d0 = true, X.overV a0 b0 c0 d0 = true, X.overV a0 b0 c0 d0 = true, CallSpec Try.prog 71 [.int .i64 a1, .int .i64 b1, .int .i64 c1, .int .i64 d1] [] (.mk (.bool (X.overV a1 b1 c1 d1)) [] []), X.overV a0 b0 c0 d0 = true, X.overV a1 b1 c1 d1 = false, X.overV a1 b1 c1 d1 = false, X.overV a1 b1 c1 d1 = false, X.overV a1 b1 c1 d1 = false, X.overV a1 b1 c1 d1 = false, X.overV a1 b1 c1 d1 = false, X.overV a1 b1 c1 d1 = false, X.overV a1 b1 c1 d1 = false, X.overV a1 b1 c1 d1 = false, X.overV a1 b1 c1 d1 = false, X.overV a1 b1 c1 d1 = false]) := by kernel_rfl
theorem meet_ok_pf : go (exec (Try.prog) (8) (93) ([pV a0 a1, pV b0 b1, pV c0 c1, pV d0 d1]) ([])) [(31, .call (.mk (.bool (X.overV a0 b0 c0 d0)) [] [])), (3, .dec false), (0, .dec false), (0, .dec false), (0, .dec false), (0, .dec false), (0, .dec false), (0, .dec false), (0, .dec false), (0, .dec false), (0, .dec false)] = some (.mk (.bool false) [] [], true, [CallSpec Try.prog 71 [.int .i64 a0, .int .i64 b0, .int .i64 c0, .int .i64 d0] [] (.mk (.bool (X.overV a0 b0 c0 d0)) [] []), X.overV a0 b0 c0 d0 = false, X.overV a0 b0 c0 d0 = false, X.overV a0 b0 c0 d0 = false, X.overV a0 b0 c0 d0 = false, X.overV a0 b0 c0 d0 = false, X.overV a0 b0 c0 d0 = false, X.overV a0 b0 c0 d0 = false, X.overV a0 b0 c0 d0 = false, X.overV a0 b0 c0 d0 = false, X.overV a0 b0 c0 d0 = false]) := by kernel_rfl
theorem meet_ok (R : Res) (k_pttt : (h0 : X.overV a0 b0 c0 d0 = true) → (h1 : X.overV a1 b1 c1 d1 = true) → (h2 : IntKind.wrap .i64 (X.turnV a0 a1 b0 b1 c0 c1 * X.turnV a0 a1 b0 b1 d0 d1) ≤ 0) → Res.le (.mk (.bool (decide (IntKind.wrap .i64 (X.turnV c0 c1 d0 d1 a0 a1 * X.turnV c0 c1 d0 d1 b0 b1) ≤ 0))) [] []) R) (k_pttf : (h0 : X.overV a0 b0 c0 d0 = true) → (h1 : X.overV a1 b1 c1 d1 = true) → (h2 : ¬ (IntKind.wrap .i64 (X.turnV a0 a1 b0 b1 c0 c1 * X.turnV a0 a1 b0 b1 d0 d1) ≤ 0)) → Res.le (.mk (.bool false) [] []) R) (k_ptf : (h0 : X.overV a0 b0 c0 d0 = true) → (h1 : ¬ (X.overV a1 b1 c1 d1 = true)) → Res.le (.mk (.bool false) [] []) R) (k_pf : (h0 : ¬ (X.overV a0 b0 c0 d0 = true)) → Res.le (.mk (.bool false) [] []) R) : CallSpec (Try.prog) (93) ([pV a0 a1, pV b0 b1, pV c0 c1, pV d0 d1]) ([]) R := by
  by_cases h0 : X.overV a0 b0 c0 d0 = true
  · by_cases h1 : X.overV a1 b1 c1 d1 = true
    · by_cases h2 : IntKind.wrap .i64 (X.turnV a0 a1 b0 b1 c0 c1 * X.turnV a0 a1 b0 b1 d0 d1) ≤ 0
      · exact (CallSpec.id (go_ok (exec_ok tnamed tcalm tmixed _ _ _ _) (meet_ok_pttt a0 a1 b0 b1 c0 c1 d0 d1 ) (aC ((over_done _ _ _ _)) (aC (h0) (aC (h0) (aC (h0) (aC (h0) (aC (h0) (aC (h0) (aC (h0) (aC (h0) (aC (h0) (aC ((over_done _ _ _ _)) (aC (h0) (aC (h1) (aC (h1) (aC (h1) (aC (h1) (aC ((turn_done _ _ _ _ _ _)) (aC (h1) (aC (h1) (aC (h1) (aC (h1) (aC ((turn_done _ _ _ _ _ _)) (aC (h1) (aC (h1) (aC (h1) (aC (dTq h2) (aC (dTq h2) (aC (dTq h2) (aC (dTq h2) (aC ((turn_done _ _ _ _ _ _)) (aC (dTq h2) (aC (dTq h2) (aC (dTq h2) (aC (dTq h2) (aC ((turn_done _ _ _ _ _ _)) (aC (dTq h2) (aC (dTq h2) (aC (dTq h2) aN)))))))))))))))))))))))))))))))))))))))).le (k_pttt h0 h1 h2)
      · exact (CallSpec.id (go_ok (exec_ok tnamed tcalm tmixed _ _ _ _) (meet_ok_pttf a0 a1 b0 b1 c0 c1 d0 d1 ) (aC ((over_done _ _ _ _)) (aC (h0) (aC (h0) (aC (h0) (aC (h0) (aC (h0) (aC (h0) (aC (h0) (aC (h0) (aC (h0) (aC ((over_done _ _ _ _)) (aC (h0) (aC (h1) (aC (h1) (aC (h1) (aC (h1) (aC ((turn_done _ _ _ _ _ _)) (aC (h1) (aC (h1) (aC (h1) (aC (h1) (aC ((turn_done _ _ _ _ _ _)) (aC (h1) (aC (h1) (aC (h1) (aC (dFq h2) (aC (dFq h2) (aC (dFq h2) (aC (dFq h2) (aC (dFq h2) (aC (dFq h2) (aC (dFq h2) (aC (dFq h2) (aC (dFq h2) (aC (dFq h2) (aC (dFq h2) aN)))))))))))))))))))))))))))))))))))))).le (k_pttf h0 h1 h2)
    · exact (CallSpec.id (go_ok (exec_ok tnamed tcalm tmixed _ _ _ _) (meet_ok_ptf a0 a1 b0 b1 c0 c1 d0 d1 ) (aC ((over_done _ _ _ _)) (aC (h0) (aC (h0) (aC (h0) (aC (h0) (aC (h0) (aC (h0) (aC (h0) (aC (h0) (aC (h0) (aC ((over_done _ _ _ _)) (aC (h0) (aC ((bF h1)) (aC ((bF h1)) (aC ((bF h1)) (aC ((bF h1)) (aC ((bF h1)) (aC ((bF h1)) (aC ((bF h1)) (aC ((bF h1)) (aC ((bF h1)) (aC ((bF h1)) (aC ((bF h1)) aN))))))))))))))))))))))))).le (k_ptf h0 h1)
  · exact (CallSpec.id (go_ok (exec_ok tnamed tcalm tmixed _ _ _ _) (meet_ok_pf a0 a1 b0 b1 c0 c1 d0 d1 ) (aC ((over_done _ _ _ _)) (aC ((bF h0)) (aC ((bF h0)) (aC ((bF h0)) (aC ((bF h0)) (aC ((bF h0)) (aC ((bF h0)) (aC ((bF h0)) (aC ((bF h0)) (aC ((bF h0)) (aC ((bF h0)) aN))))))))))))).le (k_pf h0)
end
section
variable (a0 a1 b0 b1 c0 c1 d0 d1 : Int)
include a0 a1 b0 b1 c0 c1 d0 d1
theorem common_ok_pt : go (exec (Try.prog) (8) (91) ([pV a0 a1, pV b0 b1, pV c0 c1, pV d0 d1]) ([])) [(21, .call (.mk (.bool (X.onV a0 a1 b0 b1 c0 c1)) [] [])), (3, .dec true), (0, .dec true), (0, .dec true), (0, .dec true), (0, .dec true)] = some (.mk (.bool true) [] [], true, [CallSpec Try.prog 76 [(a2 a0 a1), (a2 b0 b1), (a2 c0 c1)] [] (.mk (.bool (X.onV a0 a1 b0 b1 c0 c1)) [] []), X.onV a0 a1 b0 b1 c0 c1 = true, X.onV a0 a1 b0 b1 c0 c1 = true, X.onV a0 a1 b0 b1 c0 c1 = true, X.onV a0 a1 b0 b1 c0 c1 = true, X.onV a0 a1 b0 b1 c0 c1 = true]) := by kernel_rfl
theorem common_ok_pft : go (exec (Try.prog) (8) (91) ([pV a0 a1, pV b0 b1, pV c0 c1, pV d0 d1]) ([])) [(21, .call (.mk (.bool (X.onV a0 a1 b0 b1 c0 c1)) [] [])), (3, .dec false), (2, .dec false), (2, .dec false), (2, .dec false), (0, .call (.mk (.bool (X.onV a0 a1 b0 b1 d0 d1)) [] [])), (2, .dec false), (2, .dec true), (0, .dec true), (0, .dec true), (0, .dec true), (0, .dec true)] = some (.mk (.bool true) [] [], true, [CallSpec Try.prog 76 [(a2 a0 a1), (a2 b0 b1), (a2 c0 c1)] [] (.mk (.bool (X.onV a0 a1 b0 b1 c0 c1)) [] []), X.onV a0 a1 b0 b1 c0 c1 = false, X.onV a0 a1 b0 b1 c0 c1 = false, X.onV a0 a1 b0 b1 c0 c1 = false, X.onV a0 a1 b0 b1 c0 c1 = false, CallSpec Try.prog 76 [(a2 a0 a1), (a2 b0 b1), (a2 d0 d1)] [] (.mk (.bool (X.onV a0 a1 b0 b1 d0 d1)) [] []), X.onV a0 a1 b0 b1 c0 c1 = false, X.onV a0 a1 b0 b1 d0 d1 = true, X.onV a0 a1 b0 b1 d0 d1 = true, X.onV a0 a1 b0 b1 d0 d1 = true, X.onV a0 a1 b0 b1 d0 d1 = true, X.onV a0 a1 b0 b1 d0 d1 = true]) := by kernel_rfl
theorem common_ok_pfft : go (exec (Try.prog) (8) (91) ([pV a0 a1, pV b0 b1, pV c0 c1, pV d0 d1]) ([])) [(21, .call (.mk (.bool (X.onV a0 a1 b0 b1 c0 c1)) [] [])), (3, .dec false), (2, .dec false), (2, .dec false), (2, .dec false), (0, .call (.mk (.bool (X.onV a0 a1 b0 b1 d0 d1)) [] [])), (2, .dec false), (2, .dec false), (2, .dec false), (2, .dec false), (2, .dec false), (0, .call (.mk (.bool (X.onV c0 c1 d0 d1 a0 a1)) [] [])), (2, .dec false), (2, .dec true), (0, .dec true), (0, .dec true), (0, .dec true), (0, .dec true)] = some (.mk (.bool true) [] [], true, [CallSpec Try.prog 76 [(a2 a0 a1), (a2 b0 b1), (a2 c0 c1)] [] (.mk (.bool (X.onV a0 a1 b0 b1 c0 c1)) [] []), X.onV a0 a1 b0 b1 c0 c1 = false, X.onV a0 a1 b0 b1 c0 c1 = false, X.onV a0 a1 b0 b1 c0 c1 = false, X.onV a0 a1 b0 b1 c0 c1 = false, CallSpec Try.prog 76 [(a2 a0 a1), (a2 b0 b1), (a2 d0 d1)] [] (.mk (.bool (X.onV a0 a1 b0 b1 d0 d1)) [] []), X.onV a0 a1 b0 b1 c0 c1 = false, X.onV a0 a1 b0 b1 d0 d1 = false, X.onV a0 a1 b0 b1 d0 d1 = false, X.onV a0 a1 b0 b1 d0 d1 = false, X.onV a0 a1 b0 b1 d0 d1 = false, CallSpec Try.prog 76 [(a2 c0 c1), (a2 d0 d1), (a2 a0 a1)] [] (.mk (.bool (X.onV c0 c1 d0 d1 a0 a1)) [] []), X.onV a0 a1 b0 b1 d0 d1 = false, X.onV c0 c1 d0 d1 a0 a1 = true, X.onV c0 c1 d0 d1 a0 a1 = true, X.onV c0 c1 d0 d1 a0 a1 = true, X.onV c0 c1 d0 d1 a0 a1 = true, X.onV c0 c1 d0 d1 a0 a1 = true]) := by kernel_rfl
theorem common_ok_pffft : go (exec (Try.prog) (8) (91) ([pV a0 a1, pV b0 b1, pV c0 c1, pV d0 d1]) ([])) [(21, .call (.mk (.bool (X.onV a0 a1 b0 b1 c0 c1)) [] [])), (3, .dec false), (2, .dec false), (2, .dec false), (2, .dec false), (0, .call (.mk (.bool (X.onV a0 a1 b0 b1 d0 d1)) [] [])), (2, .dec false), (2, .dec false), (2, .dec false), (2, .dec false), (2, .dec false), (0, .call (.mk (.bool (X.onV c0 c1 d0 d1 a0 a1)) [] [])), (2, .dec false), (2, .dec false), (2, .dec false), (2, .dec false), (2, .dec false), (0, .call (.mk (.bool (X.onV c0 c1 d0 d1 b0 b1)) [] [])), (2, .dec false), (2, .dec true)] = some (.mk (.bool true) [] [], true, [CallSpec Try.prog 76 [(a2 a0 a1), (a2 b0 b1), (a2 c0 c1)] [] (.mk (.bool (X.onV a0 a1 b0 b1 c0 c1)) [] []), X.onV a0 a1 b0 b1 c0 c1 = false, X.onV a0 a1 b0 b1 c0 c1 = false, X.onV a0 a1 b0 b1 c0 c1 = false, X.onV a0 a1 b0 b1 c0 c1 = false, CallSpec Try.prog 76 [(a2 a0 a1), (a2 b0 b1), (a2 d0 d1)] [] (.mk (.bool (X.onV a0 a1 b0 b1 d0 d1)) [] []), X.onV a0 a1 b0 b1 c0 c1 = false, X.onV a0 a1 b0 b1 d0 d1 = false, X.onV a0 a1 b0 b1 d0 d1 = false, X.onV a0 a1 b0 b1 d0 d1 = false, X.onV a0 a1 b0 b1 d0 d1 = false, CallSpec Try.prog 76 [(a2 c0 c1), (a2 d0 d1), (a2 a0 a1)] [] (.mk (.bool (X.onV c0 c1 d0 d1 a0 a1)) [] []), X.onV a0 a1 b0 b1 d0 d1 = false, X.onV c0 c1 d0 d1 a0 a1 = false, X.onV c0 c1 d0 d1 a0 a1 = false, X.onV c0 c1 d0 d1 a0 a1 = false, X.onV c0 c1 d0 d1 a0 a1 = false, CallSpec Try.prog 76 [(a2 c0 c1), (a2 d0 d1), (a2 b0 b1)] [] (.mk (.bool (X.onV c0 c1 d0 d1 b0 b1)) [] []), X.onV c0 c1 d0 d1 a0 a1 = false, X.onV c0 c1 d0 d1 b0 b1 = true]) := by kernel_rfl
theorem common_ok_pfffft : go (exec (Try.prog) (8) (91) ([pV a0 a1, pV b0 b1, pV c0 c1, pV d0 d1]) ([])) [(21, .call (.mk (.bool (X.onV a0 a1 b0 b1 c0 c1)) [] [])), (3, .dec false), (2, .dec false), (2, .dec false), (2, .dec false), (0, .call (.mk (.bool (X.onV a0 a1 b0 b1 d0 d1)) [] [])), (2, .dec false), (2, .dec false), (2, .dec false), (2, .dec false), (2, .dec false), (0, .call (.mk (.bool (X.onV c0 c1 d0 d1 a0 a1)) [] [])), (2, .dec false), (2, .dec false), (2, .dec false), (2, .dec false), (2, .dec false), (0, .call (.mk (.bool (X.onV c0 c1 d0 d1 b0 b1)) [] [])), (2, .dec false), (2, .dec false), (6, .call (.mk (.int .i64 (X.crossW a0 a1 b0 b1 c0 c1)) [] [])), (2, .call (.mk (.int .i64 (X.sgnI (X.crossW a0 a1 b0 b1 c0 c1))) [] [])), (8, .call (.mk (.int .i64 (X.crossW a0 a1 b0 b1 d0 d1)) [] [])), (2, .call (.mk (.int .i64 (X.sgnI (X.crossW a0 a1 b0 b1 d0 d1))) [] [])), (5, .dec true), (2, .dec true), (2, .dec true), (2, .dec true), (0, .call (.mk (.int .i64 (X.crossW c0 c1 d0 d1 a0 a1)) [] [])), (2, .dec true), (0, .call (.mk (.int .i64 (X.sgnI (X.crossW c0 c1 d0 d1 a0 a1))) [] [])), (2, .dec true), (2, .dec true), (2, .dec true), (2, .dec true), (0, .call (.mk (.int .i64 (X.crossW c0 c1 d0 d1 b0 b1)) [] [])), (2, .dec true), (0, .call (.mk (.int .i64 (X.sgnI (X.crossW c0 c1 d0 d1 b0 b1))) [] [])), (2, .dec true), (1, .dec true), (1, .dec true)] = some (.mk (.bool (decide (IntKind.wrap .i64 (X.sgnI (X.crossW c0 c1 d0 d1 a0 a1) * X.sgnI (X.crossW c0 c1 d0 d1 b0 b1)) < 0))) [] [], true, [CallSpec Try.prog 76 [(a2 a0 a1), (a2 b0 b1), (a2 c0 c1)] [] (.mk (.bool (X.onV a0 a1 b0 b1 c0 c1)) [] []), X.onV a0 a1 b0 b1 c0 c1 = false, X.onV a0 a1 b0 b1 c0 c1 = false, X.onV a0 a1 b0 b1 c0 c1 = false, X.onV a0 a1 b0 b1 c0 c1 = false, CallSpec Try.prog 76 [(a2 a0 a1), (a2 b0 b1), (a2 d0 d1)] [] (.mk (.bool (X.onV a0 a1 b0 b1 d0 d1)) [] []), X.onV a0 a1 b0 b1 c0 c1 = false, X.onV a0 a1 b0 b1 d0 d1 = false, X.onV a0 a1 b0 b1 d0 d1 = false, X.onV a0 a1 b0 b1 d0 d1 = false, X.onV a0 a1 b0 b1 d0 d1 = false, CallSpec Try.prog 76 [(a2 c0 c1), (a2 d0 d1), (a2 a0 a1)] [] (.mk (.bool (X.onV c0 c1 d0 d1 a0 a1)) [] []), X.onV a0 a1 b0 b1 d0 d1 = false, X.onV c0 c1 d0 d1 a0 a1 = false, X.onV c0 c1 d0 d1 a0 a1 = false, X.onV c0 c1 d0 d1 a0 a1 = false, X.onV c0 c1 d0 d1 a0 a1 = false, CallSpec Try.prog 76 [(a2 c0 c1), (a2 d0 d1), (a2 b0 b1)] [] (.mk (.bool (X.onV c0 c1 d0 d1 b0 b1)) [] []), X.onV c0 c1 d0 d1 a0 a1 = false, X.onV c0 c1 d0 d1 b0 b1 = false, CallSpec Try.prog 77 [(a2 a0 a1), (a2 b0 b1), (a2 c0 c1)] [] (.mk (.int .i64 (X.crossW a0 a1 b0 b1 c0 c1)) [] []), CallSpec Try.prog 97 [.int .i64 (X.crossW a0 a1 b0 b1 c0 c1)] [] (.mk (.int .i64 (X.sgnI (X.crossW a0 a1 b0 b1 c0 c1))) [] []), CallSpec Try.prog 77 [(a2 a0 a1), (a2 b0 b1), (a2 d0 d1)] [] (.mk (.int .i64 (X.crossW a0 a1 b0 b1 d0 d1)) [] []), CallSpec Try.prog 97 [.int .i64 (X.crossW a0 a1 b0 b1 d0 d1)] [] (.mk (.int .i64 (X.sgnI (X.crossW a0 a1 b0 b1 d0 d1))) [] []), decide (IntKind.wrap .i64 (X.sgnI (X.crossW a0 a1 b0 b1 c0 c1) * X.sgnI (X.crossW a0 a1 b0 b1 d0 d1)) < 0) = true, decide (IntKind.wrap .i64 (X.sgnI (X.crossW a0 a1 b0 b1 c0 c1) * X.sgnI (X.crossW a0 a1 b0 b1 d0 d1)) < 0) = true, decide (IntKind.wrap .i64 (X.sgnI (X.crossW a0 a1 b0 b1 c0 c1) * X.sgnI (X.crossW a0 a1 b0 b1 d0 d1)) < 0) = true, decide (IntKind.wrap .i64 (X.sgnI (X.crossW a0 a1 b0 b1 c0 c1) * X.sgnI (X.crossW a0 a1 b0 b1 d0 d1)) < 0) = true, CallSpec Try.prog 77 [(a2 c0 c1), (a2 d0 d1), (a2 a0 a1)] [] (.mk (.int .i64 (X.crossW c0 c1 d0 d1 a0 a1)) [] []), decide (IntKind.wrap .i64 (X.sgnI (X.crossW a0 a1 b0 b1 c0 c1) * X.sgnI (X.crossW a0 a1 b0 b1 d0 d1)) < 0) = true, CallSpec Try.prog 97 [.int .i64 (X.crossW c0 c1 d0 d1 a0 a1)] [] (.mk (.int .i64 (X.sgnI (X.crossW c0 c1 d0 d1 a0 a1))) [] []), decide (IntKind.wrap .i64 (X.sgnI (X.crossW a0 a1 b0 b1 c0 c1) * X.sgnI (X.crossW a0 a1 b0 b1 d0 d1)) < 0) = true, decide (IntKind.wrap .i64 (X.sgnI (X.crossW a0 a1 b0 b1 c0 c1) * X.sgnI (X.crossW a0 a1 b0 b1 d0 d1)) < 0) = true, decide (IntKind.wrap .i64 (X.sgnI (X.crossW a0 a1 b0 b1 c0 c1) * X.sgnI (X.crossW a0 a1 b0 b1 d0 d1)) < 0) = true, decide (IntKind.wrap .i64 (X.sgnI (X.crossW a0 a1 b0 b1 c0 c1) * X.sgnI (X.crossW a0 a1 b0 b1 d0 d1)) < 0) = true, CallSpec Try.prog 77 [(a2 c0 c1), (a2 d0 d1), (a2 b0 b1)] [] (.mk (.int .i64 (X.crossW c0 c1 d0 d1 b0 b1)) [] []), decide (IntKind.wrap .i64 (X.sgnI (X.crossW a0 a1 b0 b1 c0 c1) * X.sgnI (X.crossW a0 a1 b0 b1 d0 d1)) < 0) = true, CallSpec Try.prog 97 [.int .i64 (X.crossW c0 c1 d0 d1 b0 b1)] [] (.mk (.int .i64 (X.sgnI (X.crossW c0 c1 d0 d1 b0 b1))) [] []), decide (IntKind.wrap .i64 (X.sgnI (X.crossW a0 a1 b0 b1 c0 c1) * X.sgnI (X.crossW a0 a1 b0 b1 d0 d1)) < 0) = true, decide (IntKind.wrap .i64 (X.sgnI (X.crossW a0 a1 b0 b1 c0 c1) * X.sgnI (X.crossW a0 a1 b0 b1 d0 d1)) < 0) = true, decide (IntKind.wrap .i64 (X.sgnI (X.crossW a0 a1 b0 b1 c0 c1) * X.sgnI (X.crossW a0 a1 b0 b1 d0 d1)) < 0) = true]) := by kernel_rfl
theorem common_ok_pfffff : go (exec (Try.prog) (8) (91) ([pV a0 a1, pV b0 b1, pV c0 c1, pV d0 d1]) ([])) [(21, .call (.mk (.bool (X.onV a0 a1 b0 b1 c0 c1)) [] [])), (3, .dec false), (2, .dec false), (2, .dec false), (2, .dec false), (0, .call (.mk (.bool (X.onV a0 a1 b0 b1 d0 d1)) [] [])), (2, .dec false), (2, .dec false), (2, .dec false), (2, .dec false), (2, .dec false), (0, .call (.mk (.bool (X.onV c0 c1 d0 d1 a0 a1)) [] [])), (2, .dec false), (2, .dec false), (2, .dec false), (2, .dec false), (2, .dec false), (0, .call (.mk (.bool (X.onV c0 c1 d0 d1 b0 b1)) [] [])), (2, .dec false), (2, .dec false), (6, .call (.mk (.int .i64 (X.crossW a0 a1 b0 b1 c0 c1)) [] [])), (2, .call (.mk (.int .i64 (X.sgnI (X.crossW a0 a1 b0 b1 c0 c1))) [] [])), (8, .call (.mk (.int .i64 (X.crossW a0 a1 b0 b1 d0 d1)) [] [])), (2, .call (.mk (.int .i64 (X.sgnI (X.crossW a0 a1 b0 b1 d0 d1))) [] [])), (5, .dec false), (0, .dec false), (0, .dec false), (0, .dec false), (0, .dec false), (0, .dec false), (0, .dec false), (0, .dec false), (0, .dec false), (0, .dec false), (0, .dec false), (0, .dec false), (0, .dec false)] = some (.mk (.bool false) [] [], true, [CallSpec Try.prog 76 [(a2 a0 a1), (a2 b0 b1), (a2 c0 c1)] [] (.mk (.bool (X.onV a0 a1 b0 b1 c0 c1)) [] []), X.onV a0 a1 b0 b1 c0 c1 = false, X.onV a0 a1 b0 b1 c0 c1 = false, X.onV a0 a1 b0 b1 c0 c1 = false, X.onV a0 a1 b0 b1 c0 c1 = false, CallSpec Try.prog 76 [(a2 a0 a1), (a2 b0 b1), (a2 d0 d1)] [] (.mk (.bool (X.onV a0 a1 b0 b1 d0 d1)) [] []), X.onV a0 a1 b0 b1 c0 c1 = false, X.onV a0 a1 b0 b1 d0 d1 = false, X.onV a0 a1 b0 b1 d0 d1 = false, X.onV a0 a1 b0 b1 d0 d1 = false, X.onV a0 a1 b0 b1 d0 d1 = false, CallSpec Try.prog 76 [(a2 c0 c1), (a2 d0 d1), (a2 a0 a1)] [] (.mk (.bool (X.onV c0 c1 d0 d1 a0 a1)) [] []), X.onV a0 a1 b0 b1 d0 d1 = false, X.onV c0 c1 d0 d1 a0 a1 = false, X.onV c0 c1 d0 d1 a0 a1 = false, X.onV c0 c1 d0 d1 a0 a1 = false, X.onV c0 c1 d0 d1 a0 a1 = false, CallSpec Try.prog 76 [(a2 c0 c1), (a2 d0 d1), (a2 b0 b1)] [] (.mk (.bool (X.onV c0 c1 d0 d1 b0 b1)) [] []), X.onV c0 c1 d0 d1 a0 a1 = false, X.onV c0 c1 d0 d1 b0 b1 = false, CallSpec Try.prog 77 [(a2 a0 a1), (a2 b0 b1), (a2 c0 c1)] [] (.mk (.int .i64 (X.crossW a0 a1 b0 b1 c0 c1)) [] []), CallSpec Try.prog 97 [.int .i64 (X.crossW a0 a1 b0 b1 c0 c1)] [] (.mk (.int .i64 (X.sgnI (X.crossW a0 a1 b0 b1 c0 c1))) [] []), CallSpec Try.prog 77 [(a2 a0 a1), (a2 b0 b1), (a2 d0 d1)] [] (.mk (.int .i64 (X.crossW a0 a1 b0 b1 d0 d1)) [] []), CallSpec Try.prog 97 [.int .i64 (X.crossW a0 a1 b0 b1 d0 d1)] [] (.mk (.int .i64 (X.sgnI (X.crossW a0 a1 b0 b1 d0 d1))) [] []), decide (IntKind.wrap .i64 (X.sgnI (X.crossW a0 a1 b0 b1 c0 c1) * X.sgnI (X.crossW a0 a1 b0 b1 d0 d1)) < 0) = false, decide (IntKind.wrap .i64 (X.sgnI (X.crossW a0 a1 b0 b1 c0 c1) * X.sgnI (X.crossW a0 a1 b0 b1 d0 d1)) < 0) = false, decide (IntKind.wrap .i64 (X.sgnI (X.crossW a0 a1 b0 b1 c0 c1) * X.sgnI (X.crossW a0 a1 b0 b1 d0 d1)) < 0) = false, decide (IntKind.wrap .i64 (X.sgnI (X.crossW a0 a1 b0 b1 c0 c1) * X.sgnI (X.crossW a0 a1 b0 b1 d0 d1)) < 0) = false, decide (IntKind.wrap .i64 (X.sgnI (X.crossW a0 a1 b0 b1 c0 c1) * X.sgnI (X.crossW a0 a1 b0 b1 d0 d1)) < 0) = false, decide (IntKind.wrap .i64 (X.sgnI (X.crossW a0 a1 b0 b1 c0 c1) * X.sgnI (X.crossW a0 a1 b0 b1 d0 d1)) < 0) = false, decide (IntKind.wrap .i64 (X.sgnI (X.crossW a0 a1 b0 b1 c0 c1) * X.sgnI (X.crossW a0 a1 b0 b1 d0 d1)) < 0) = false, decide (IntKind.wrap .i64 (X.sgnI (X.crossW a0 a1 b0 b1 c0 c1) * X.sgnI (X.crossW a0 a1 b0 b1 d0 d1)) < 0) = false, decide (IntKind.wrap .i64 (X.sgnI (X.crossW a0 a1 b0 b1 c0 c1) * X.sgnI (X.crossW a0 a1 b0 b1 d0 d1)) < 0) = false, decide (IntKind.wrap .i64 (X.sgnI (X.crossW a0 a1 b0 b1 c0 c1) * X.sgnI (X.crossW a0 a1 b0 b1 d0 d1)) < 0) = false, decide (IntKind.wrap .i64 (X.sgnI (X.crossW a0 a1 b0 b1 c0 c1) * X.sgnI (X.crossW a0 a1 b0 b1 d0 d1)) < 0) = false, decide (IntKind.wrap .i64 (X.sgnI (X.crossW a0 a1 b0 b1 c0 c1) * X.sgnI (X.crossW a0 a1 b0 b1 d0 d1)) < 0) = false, decide (IntKind.wrap .i64 (X.sgnI (X.crossW a0 a1 b0 b1 c0 c1) * X.sgnI (X.crossW a0 a1 b0 b1 d0 d1)) < 0) = false]) := by kernel_rfl
theorem common_ok (R : Res) (k_pt : (h0 : X.onV a0 a1 b0 b1 c0 c1 = true) → Res.le (.mk (.bool true) [] []) R) (k_pft : (h0 : ¬ (X.onV a0 a1 b0 b1 c0 c1 = true)) → (h1 : X.onV a0 a1 b0 b1 d0 d1 = true) → Res.le (.mk (.bool true) [] []) R) (k_pfft : (h0 : ¬ (X.onV a0 a1 b0 b1 c0 c1 = true)) → (h1 : ¬ (X.onV a0 a1 b0 b1 d0 d1 = true)) → (h2 : X.onV c0 c1 d0 d1 a0 a1 = true) → Res.le (.mk (.bool true) [] []) R) (k_pffft : (h0 : ¬ (X.onV a0 a1 b0 b1 c0 c1 = true)) → (h1 : ¬ (X.onV a0 a1 b0 b1 d0 d1 = true)) → (h2 : ¬ (X.onV c0 c1 d0 d1 a0 a1 = true)) → (h3 : X.onV c0 c1 d0 d1 b0 b1 = true) → Res.le (.mk (.bool true) [] []) R) (k_pfffft : (h0 : ¬ (X.onV a0 a1 b0 b1 c0 c1 = true)) → (h1 : ¬ (X.onV a0 a1 b0 b1 d0 d1 = true)) → (h2 : ¬ (X.onV c0 c1 d0 d1 a0 a1 = true)) → (h3 : ¬ (X.onV c0 c1 d0 d1 b0 b1 = true)) → (h4 : IntKind.wrap .i64 (X.sgnI (X.crossW a0 a1 b0 b1 c0 c1) * X.sgnI (X.crossW a0 a1 b0 b1 d0 d1)) < 0) → Res.le (.mk (.bool (decide (IntKind.wrap .i64 (X.sgnI (X.crossW c0 c1 d0 d1 a0 a1) * X.sgnI (X.crossW c0 c1 d0 d1 b0 b1)) < 0))) [] []) R) (k_pfffff : (h0 : ¬ (X.onV a0 a1 b0 b1 c0 c1 = true)) → (h1 : ¬ (X.onV a0 a1 b0 b1 d0 d1 = true)) → (h2 : ¬ (X.onV c0 c1 d0 d1 a0 a1 = true)) → (h3 : ¬ (X.onV c0 c1 d0 d1 b0 b1 = true)) → (h4 : ¬ (IntKind.wrap .i64 (X.sgnI (X.crossW a0 a1 b0 b1 c0 c1) * X.sgnI (X.crossW a0 a1 b0 b1 d0 d1)) < 0)) → Res.le (.mk (.bool false) [] []) R) : CallSpec (Try.prog) (91) ([pV a0 a1, pV b0 b1, pV c0 c1, pV d0 d1]) ([]) R := by
  by_cases h0 : X.onV a0 a1 b0 b1 c0 c1 = true
  · exact (CallSpec.id (go_ok (exec_ok tnamed tcalm tmixed _ _ _ _) (common_ok_pt a0 a1 b0 b1 c0 c1 d0 d1 ) (aC ((on_done _ _ _ _ _ _)) (aC (h0) (aC (h0) (aC (h0) (aC (h0) (aC (h0) aN)))))))).le (k_pt h0)
  · by_cases h1 : X.onV a0 a1 b0 b1 d0 d1 = true
    · exact (CallSpec.id (go_ok (exec_ok tnamed tcalm tmixed _ _ _ _) (common_ok_pft a0 a1 b0 b1 c0 c1 d0 d1 ) (aC ((on_done _ _ _ _ _ _)) (aC ((bF h0)) (aC ((bF h0)) (aC ((bF h0)) (aC ((bF h0)) (aC ((on_done _ _ _ _ _ _)) (aC ((bF h0)) (aC (h1) (aC (h1) (aC (h1) (aC (h1) (aC (h1) aN)))))))))))))).le (k_pft h0 h1)
    · by_cases h2 : X.onV c0 c1 d0 d1 a0 a1 = true
      · exact (CallSpec.id (go_ok (exec_ok tnamed tcalm tmixed _ _ _ _) (common_ok_pfft a0 a1 b0 b1 c0 c1 d0 d1 ) (aC ((on_done _ _ _ _ _ _)) (aC ((bF h0)) (aC ((bF h0)) (aC ((bF h0)) (aC ((bF h0)) (aC ((on_done _ _ _ _ _ _)) (aC ((bF h0)) (aC ((bF h1)) (aC ((bF h1)) (aC ((bF h1)) (aC ((bF h1)) (aC ((on_done _ _ _ _ _ _)) (aC ((bF h1)) (aC (h2) (aC (h2) (aC (h2) (aC (h2) (aC (h2) aN)))))))))))))))))))).le (k_pfft h0 h1 h2)
      · by_cases h3 : X.onV c0 c1 d0 d1 b0 b1 = true
        · exact (CallSpec.id (go_ok (exec_ok tnamed tcalm tmixed _ _ _ _) (common_ok_pffft a0 a1 b0 b1 c0 c1 d0 d1 ) (aC ((on_done _ _ _ _ _ _)) (aC ((bF h0)) (aC ((bF h0)) (aC ((bF h0)) (aC ((bF h0)) (aC ((on_done _ _ _ _ _ _)) (aC ((bF h0)) (aC ((bF h1)) (aC ((bF h1)) (aC ((bF h1)) (aC ((bF h1)) (aC ((on_done _ _ _ _ _ _)) (aC ((bF h1)) (aC ((bF h2)) (aC ((bF h2)) (aC ((bF h2)) (aC ((bF h2)) (aC ((on_done _ _ _ _ _ _)) (aC ((bF h2)) (aC (h3) aN)))))))))))))))))))))).le (k_pffft h0 h1 h2 h3)
        · by_cases h4 : IntKind.wrap .i64 (X.sgnI (X.crossW a0 a1 b0 b1 c0 c1) * X.sgnI (X.crossW a0 a1 b0 b1 d0 d1)) < 0
          · exact (CallSpec.id (go_ok (exec_ok tnamed tcalm tmixed _ _ _ _) (common_ok_pfffft a0 a1 b0 b1 c0 c1 d0 d1 ) (aC ((on_done _ _ _ _ _ _)) (aC ((bF h0)) (aC ((bF h0)) (aC ((bF h0)) (aC ((bF h0)) (aC ((on_done _ _ _ _ _ _)) (aC ((bF h0)) (aC ((bF h1)) (aC ((bF h1)) (aC ((bF h1)) (aC ((bF h1)) (aC ((on_done _ _ _ _ _ _)) (aC ((bF h1)) (aC ((bF h2)) (aC ((bF h2)) (aC ((bF h2)) (aC ((bF h2)) (aC ((on_done _ _ _ _ _ _)) (aC ((bF h2)) (aC ((bF h3)) (aC ((rcross_done _ _ _ _ _ _)) (aC ((sign_done _)) (aC ((rcross_done _ _ _ _ _ _)) (aC ((sign_done _)) (aC (dTq h4) (aC (dTq h4) (aC (dTq h4) (aC (dTq h4) (aC ((rcross_done _ _ _ _ _ _)) (aC (dTq h4) (aC ((sign_done _)) (aC (dTq h4) (aC (dTq h4) (aC (dTq h4) (aC (dTq h4) (aC ((rcross_done _ _ _ _ _ _)) (aC (dTq h4) (aC ((sign_done _)) (aC (dTq h4) (aC (dTq h4) (aC (dTq h4) aN))))))))))))))))))))))))))))))))))))))))))).le (k_pfffft h0 h1 h2 h3 h4)
          · exact (CallSpec.id (go_ok (exec_ok tnamed tcalm tmixed _ _ _ _) (common_ok_pfffff a0 a1 b0 b1 c0 c1 d0 d1 ) (aC ((on_done _ _ _ _ _ _)) (aC ((bF h0)) (aC ((bF h0)) (aC ((bF h0)) (aC ((bF h0)) (aC ((on_done _ _ _ _ _ _)) (aC ((bF h0)) (aC ((bF h1)) (aC ((bF h1)) (aC ((bF h1)) (aC ((bF h1)) (aC ((on_done _ _ _ _ _ _)) (aC ((bF h1)) (aC ((bF h2)) (aC ((bF h2)) (aC ((bF h2)) (aC ((bF h2)) (aC ((on_done _ _ _ _ _ _)) (aC ((bF h2)) (aC ((bF h3)) (aC ((rcross_done _ _ _ _ _ _)) (aC ((sign_done _)) (aC ((rcross_done _ _ _ _ _ _)) (aC ((sign_done _)) (aC (dFq h4) (aC (dFq h4) (aC (dFq h4) (aC (dFq h4) (aC (dFq h4) (aC (dFq h4) (aC (dFq h4) (aC (dFq h4) (aC (dFq h4) (aC (dFq h4) (aC (dFq h4) (aC (dFq h4) (aC (dFq h4) aN))))))))))))))))))))))))))))))))))))))).le (k_pfffff h0 h1 h2 h3 h4)
end
end Go.Proofs.Ytjalkjeldlchoaa.Ex
end
section
set_option linter.unusedSectionVars false
set_option linter.unusedSimpArgs false
set_option linter.unusedVariables false
namespace Go.Proofs.Ytjalkjeldlchoaa.Ex
open Go Go.RowKit Go.Proofs.Ytjalkjeldlchoaa.X
set_option linter.unusedVariables false
theorem meet_done (a0 a1 b0 b1 c0 c1 d0 d1 : Int) : CallSpec Try.prog 93 [pV a0 a1, pV b0 b1, pV c0 c1, pV d0 d1] [] ⟨.bool (meetV a0 a1 b0 b1 c0 c1 d0 d1), [], []⟩ := by
  refine meet_ok _ _ _ _ _ _ _ _ _ (fun h g k => res_b ?_) (fun h g k => res_b ?_) (fun h g => res_b ?_) (fun h => res_b ?_)
  all_goals (try simp only [w64_i] at *)
  all_goals unfold meetV
  · rw [if_pos h, if_pos g, if_pos k]
  · rw [if_pos h, if_pos g, if_neg k]
  · rw [if_pos h, if_neg g]
  · rw [if_neg h]
theorem common_done (a0 a1 b0 b1 c0 c1 d0 d1 : Int) : CallSpec Try.prog 91 [pV a0 a1, pV b0 b1, pV c0 c1, pV d0 d1] [] ⟨.bool (commonV a0 a1 b0 b1 c0 c1 d0 d1), [], []⟩ := by
  have e : ∀ {b : Bool}, ¬ (b = true) → b = false := fun h => Bool.eq_false_iff.2 h
  refine common_ok _ _ _ _ _ _ _ _ _ (fun h => res_b ?_) (fun h g => res_b ?_) (fun h g k => res_b ?_) (fun h g k l => res_b ?_) (fun h g k l p => res_b ?_) (fun h g k l p => res_b ?_)
  all_goals (try simp only [w64_i] at *)
  all_goals unfold commonV
  · rw [h]; rfl
  · rw [e h, g]; rfl
  · rw [e h, e g, k]; rfl
  · rw [e h, e g, e k, l]; rfl
  · rw [e h, e g, e k, e l, properV, if_pos p]; rfl
  · rw [e h, e g, e k, e l, properV, if_neg p]; rfl
end Go.Proofs.Ytjalkjeldlchoaa.Ex
end
section
set_option linter.unusedSectionVars false
set_option linter.unusedSimpArgs false
set_option linter.unusedVariables false
namespace Go.Proofs.Ytjalkjeldlchoaa.Ex
open Go
set_option linter.unusedVariables false
noncomputable def tang_inner : Code := loopAt Try.prog 75 1
theorem tang_inner_calm : calmC tang_inner = true := loopAt_calm tcalm 75 1
noncomputable def tang_innerC : Code := .loop tang_inner
noncomputable def tang_outer : Code := loopAt Try.prog 75 0
theorem tang_outer_calm : calmC tang_outer = true := loopAt_calm tcalm 75 0
noncomputable def tang_outerC : Code := .loop tang_outer
def frTI (n c : Nat) (i j : Int) : Fr := frOf 68 [(0, .slice (some ⟨0, 0, none⟩) n c), (3, .int .i64 n), (4, .int .i64 i), (5, .int .i64 j), (8, .int .i64 n), (9, .int .i64 i)]
def keepTI : Xt → List Nat
  | .ret => [2]
  | _ => [0, 3, 4, 5, 8, 9]
def frTO (n c : Nat) (i : Int) : Fr := frOf 68 [(0, .slice (some ⟨0, 0, none⟩) n c), (3, .int .i64 n), (8, .int .i64 n), (9, .int .i64 i)]
def keepTO : Xt → List Nat
  | .ret => [2]
  | _ => [0, 3, 8, 9]
abbrev ptAt (cs : List Value) (i : Int) (x y : Int) : Prop := Value.agg (List.toArray (List.take 2 (List.drop (0 + Int.toNat i * 2) cs))) = .agg #[.int .i64 x, .int .i64 y]
section
variable (n c : Nat) (cs : List Value) (i j a0 a1 b0 b1 c0 c1 d0 d1 : Int) (hi : 0 ≤ i ∧ i + 2 ≤ j ∧ j ≤ (↑n : Int) + 1) (hn : n ≤ 64) (hl : List.length cs = n * 2) (hm : 0 ≤ (j + 1) % (↑n : Int) ∧ (j + 1) % (↑n : Int) < (↑n : Int)) (hA : j < (↑n : Int) → ptAt cs i a0 a1) (hB : j < (↑n : Int) → ptAt cs (i + 1) b0 b1) (hC : j < (↑n : Int) → ptAt cs j c0 c1) (hD : j < (↑n : Int) → ptAt cs ((j + 1) % (↑n : Int)) d0 d1)
include n c cs i j a0 a1 b0 b1 c0 c1 d0 d1 hi hn hl hm hA hB hC hD
theorem tang_in_pttt : go (body (Try.prog) (8) (1) (8) (keepTI) (tang_inner) (frTI n c i j) ([.ro 39 cs])) [(4, .dec true), (3, .dec true), (1, .dec true), (1, .dec true), (0, Itm.val (.int .i64 ((↑n : Int) - 1))), (0, .dec true), (1, .dec true), (2, .dec true), (1, Itm.val (.int .i64 (j + 1)))] = some (Out.mk Xt.normal (frOf 68 [(0, (sB 0 n c)), (3, .int .i64 (↑n : Int)), (4, .int .i64 i), (5, .int .i64 (j + 1)), (8, .int .i64 (↑n : Int)), (9, .int .i64 i)]) [.ro 39 cs] [], true, [decide (j < (↑n : Int)) = true, decide (i = 0) = true, decide (i = 0) = true, decide (i = 0) = true, Value.int .i64 (IntKind.wrap .i64 ((↑n : Int) - 1)) = .int .i64 ((↑n : Int) - 1), decide (i = 0) = true, decide (i = 0) = true, decide (j = (↑n : Int) - 1) = true, Value.int .i64 (IntKind.wrap .i64 (j + 1)) = .int .i64 (j + 1)]) := by kernel_rfl
theorem tang_in_pttft : go (body (Try.prog) (8) (1) (8) (keepTI) (tang_inner) (frTI n c i j) ([.ro 39 cs])) [(4, .dec true), (3, .dec true), (1, .dec true), (1, .dec true), (0, Itm.val (.int .i64 ((↑n : Int) - 1))), (0, .dec true), (1, .dec true), (2, .dec false), (2, Itm.must), (1, Itm.must), (0, Itm.val ((a2 a0 a1))), (2, Itm.val (.int .i64 (i + 1))), (0, Itm.must), (1, Itm.must), (0, Itm.val ((a2 b0 b1))), (2, Itm.must), (1, Itm.must), (0, Itm.val ((a2 c0 c1))), (2, Itm.val (.int .i64 (j + 1))), (1, Itm.must), (0, Itm.val (.int .i64 ((j + 1) % (↑n : Int)))), (0, Itm.must), (1, Itm.must), (0, Itm.val ((a2 d0 d1))), (0, .call (.mk (.bool (X.meetV a0 a1 b0 b1 c0 c1 d0 d1)) [] [])), (3, .dec true)] = some (Out.mk Xt.ret (frOf 68 [(2, .bool true)]) [.ro 39 cs] [], true, [decide (j < (↑n : Int)) = true, decide (i = 0) = true, decide (i = 0) = true, decide (i = 0) = true, Value.int .i64 (IntKind.wrap .i64 ((↑n : Int) - 1)) = .int .i64 ((↑n : Int) - 1), decide (i = 0) = true, decide (i = 0) = true, decide (j = (↑n : Int) - 1) = false, inside i n = true, decide (0 + Int.toNat i * 2 + 2 ≤ List.length cs) = true, Value.agg (List.toArray (List.take 2 (List.drop (0 + Int.toNat i * 2) cs))) = (a2 a0 a1), Value.int .i64 (IntKind.wrap .i64 (i + 1)) = .int .i64 (i + 1), inside (i + 1) n = true, decide (0 + Int.toNat (i + 1) * 2 + 2 ≤ List.length cs) = true, Value.agg (List.toArray (List.take 2 (List.drop (0 + Int.toNat (i + 1) * 2) cs))) = (a2 b0 b1), inside j n = true, decide (0 + Int.toNat j * 2 + 2 ≤ List.length cs) = true, Value.agg (List.toArray (List.take 2 (List.drop (0 + Int.toNat j * 2) cs))) = (a2 c0 c1), Value.int .i64 (IntKind.wrap .i64 (j + 1)) = .int .i64 (j + 1), (true && decide ((↑n : Int) ≠ 0)) = true, Value.int .i64 (Int.tmod (j + 1) (↑n : Int)) = .int .i64 ((j + 1) % (↑n : Int)), inside ((j + 1) % (↑n : Int)) n = true, decide (0 + Int.toNat ((j + 1) % (↑n : Int)) * 2 + 2 ≤ List.length cs) = true, Value.agg (List.toArray (List.take 2 (List.drop (0 + Int.toNat ((j + 1) % (↑n : Int)) * 2) cs))) = (a2 d0 d1), CallSpec Try.prog 93 [(a2 a0 a1), (a2 b0 b1), (a2 c0 c1), (a2 d0 d1)] [] (.mk (.bool (X.meetV a0 a1 b0 b1 c0 c1 d0 d1)) [] []), X.meetV a0 a1 b0 b1 c0 c1 d0 d1 = true]) := by kernel_rfl
theorem tang_in_pttff : go (body (Try.prog) (8) (1) (8) (keepTI) (tang_inner) (frTI n c i j) ([.ro 39 cs])) [(4, .dec true), (3, .dec true), (1, .dec true), (1, .dec true), (0, Itm.val (.int .i64 ((↑n : Int) - 1))), (0, .dec true), (1, .dec true), (2, .dec false), (2, Itm.must), (1, Itm.must), (0, Itm.val ((a2 a0 a1))), (2, Itm.val (.int .i64 (i + 1))), (0, Itm.must), (1, Itm.must), (0, Itm.val ((a2 b0 b1))), (2, Itm.must), (1, Itm.must), (0, Itm.val ((a2 c0 c1))), (2, Itm.val (.int .i64 (j + 1))), (1, Itm.must), (0, Itm.val (.int .i64 ((j + 1) % (↑n : Int)))), (0, Itm.must), (1, Itm.must), (0, Itm.val ((a2 d0 d1))), (0, .call (.mk (.bool (X.meetV a0 a1 b0 b1 c0 c1 d0 d1)) [] [])), (3, .dec false), (1, Itm.val (.int .i64 (j + 1)))] = some (Out.mk Xt.normal (frOf 68 [(0, (sB 0 n c)), (3, .int .i64 (↑n : Int)), (4, .int .i64 i), (5, .int .i64 (j + 1)), (8, .int .i64 (↑n : Int)), (9, .int .i64 i)]) [.ro 39 cs] [], true, [decide (j < (↑n : Int)) = true, decide (i = 0) = true, decide (i = 0) = true, decide (i = 0) = true, Value.int .i64 (IntKind.wrap .i64 ((↑n : Int) - 1)) = .int .i64 ((↑n : Int) - 1), decide (i = 0) = true, decide (i = 0) = true, decide (j = (↑n : Int) - 1) = false, inside i n = true, decide (0 + Int.toNat i * 2 + 2 ≤ List.length cs) = true, Value.agg (List.toArray (List.take 2 (List.drop (0 + Int.toNat i * 2) cs))) = (a2 a0 a1), Value.int .i64 (IntKind.wrap .i64 (i + 1)) = .int .i64 (i + 1), inside (i + 1) n = true, decide (0 + Int.toNat (i + 1) * 2 + 2 ≤ List.length cs) = true, Value.agg (List.toArray (List.take 2 (List.drop (0 + Int.toNat (i + 1) * 2) cs))) = (a2 b0 b1), inside j n = true, decide (0 + Int.toNat j * 2 + 2 ≤ List.length cs) = true, Value.agg (List.toArray (List.take 2 (List.drop (0 + Int.toNat j * 2) cs))) = (a2 c0 c1), Value.int .i64 (IntKind.wrap .i64 (j + 1)) = .int .i64 (j + 1), (true && decide ((↑n : Int) ≠ 0)) = true, Value.int .i64 (Int.tmod (j + 1) (↑n : Int)) = .int .i64 ((j + 1) % (↑n : Int)), inside ((j + 1) % (↑n : Int)) n = true, decide (0 + Int.toNat ((j + 1) % (↑n : Int)) * 2 + 2 ≤ List.length cs) = true, Value.agg (List.toArray (List.take 2 (List.drop (0 + Int.toNat ((j + 1) % (↑n : Int)) * 2) cs))) = (a2 d0 d1), CallSpec Try.prog 93 [(a2 a0 a1), (a2 b0 b1), (a2 c0 c1), (a2 d0 d1)] [] (.mk (.bool (X.meetV a0 a1 b0 b1 c0 c1 d0 d1)) [] []), X.meetV a0 a1 b0 b1 c0 c1 d0 d1 = false, Value.int .i64 (IntKind.wrap .i64 (j + 1)) = .int .i64 (j + 1)]) := by kernel_rfl
theorem tang_in_ptft : go (body (Try.prog) (8) (1) (8) (keepTI) (tang_inner) (frTI n c i j) ([.ro 39 cs])) [(4, .dec true), (3, .dec false), (0, .dec false), (0, .dec false), (0, .dec false), (0, .dec false), (5, Itm.must), (1, Itm.must), (0, Itm.val ((a2 a0 a1))), (2, Itm.val (.int .i64 (i + 1))), (0, Itm.must), (1, Itm.must), (0, Itm.val ((a2 b0 b1))), (2, Itm.must), (1, Itm.must), (0, Itm.val ((a2 c0 c1))), (2, Itm.val (.int .i64 (j + 1))), (1, Itm.must), (0, Itm.val (.int .i64 ((j + 1) % (↑n : Int)))), (0, Itm.must), (1, Itm.must), (0, Itm.val ((a2 d0 d1))), (0, .call (.mk (.bool (X.meetV a0 a1 b0 b1 c0 c1 d0 d1)) [] [])), (3, .dec true)] = some (Out.mk Xt.ret (frOf 68 [(2, .bool true)]) [.ro 39 cs] [], true, [decide (j < (↑n : Int)) = true, decide (i = 0) = false, decide (i = 0) = false, decide (i = 0) = false, decide (i = 0) = false, decide (i = 0) = false, inside i n = true, decide (0 + Int.toNat i * 2 + 2 ≤ List.length cs) = true, Value.agg (List.toArray (List.take 2 (List.drop (0 + Int.toNat i * 2) cs))) = (a2 a0 a1), Value.int .i64 (IntKind.wrap .i64 (i + 1)) = .int .i64 (i + 1), inside (i + 1) n = true, decide (0 + Int.toNat (i + 1) * 2 + 2 ≤ List.length cs) = true, Value.agg (List.toArray (List.take 2 (List.drop (0 + Int.toNat (i + 1) * 2) cs))) = (a2 b0 b1), inside j n = true, decide (0 + Int.toNat j * 2 + 2 ≤ List.length cs) = true, Value.agg (List.toArray (List.take 2 (List.drop (0 + Int.toNat j * 2) cs))) = (a2 c0 c1), Value.int .i64 (IntKind.wrap .i64 (j + 1)) = .int .i64 (j + 1), (true && decide ((↑n : Int) ≠ 0)) = true, Value.int .i64 (Int.tmod (j + 1) (↑n : Int)) = .int .i64 ((j + 1) % (↑n : Int)), inside ((j + 1) % (↑n : Int)) n = true, decide (0 + Int.toNat ((j + 1) % (↑n : Int)) * 2 + 2 ≤ List.length cs) = true, Value.agg (List.toArray (List.take 2 (List.drop (0 + Int.toNat ((j + 1) % (↑n : Int)) * 2) cs))) = (a2 d0 d1), CallSpec Try.prog 93 [(a2 a0 a1), (a2 b0 b1), (a2 c0 c1), (a2 d0 d1)] [] (.mk (.bool (X.meetV a0 a1 b0 b1 c0 c1 d0 d1)) [] []), X.meetV a0 a1 b0 b1 c0 c1 d0 d1 = true]) := by kernel_rfl
theorem tang_in_ptff : go (body (Try.prog) (8) (1) (8) (keepTI) (tang_inner) (frTI n c i j) ([.ro 39 cs])) [(4, .dec true), (3, .dec false), (0, .dec false), (0, .dec false), (0, .dec false), (0, .dec false), (5, Itm.must), (1, Itm.must), (0, Itm.val ((a2 a0 a1))), (2, Itm.val (.int .i64 (i + 1))), (0, Itm.must), (1, Itm.must), (0, Itm.val ((a2 b0 b1))), (2, Itm.must), (1, Itm.must), (0, Itm.val ((a2 c0 c1))), (2, Itm.val (.int .i64 (j + 1))), (1, Itm.must), (0, Itm.val (.int .i64 ((j + 1) % (↑n : Int)))), (0, Itm.must), (1, Itm.must), (0, Itm.val ((a2 d0 d1))), (0, .call (.mk (.bool (X.meetV a0 a1 b0 b1 c0 c1 d0 d1)) [] [])), (3, .dec false), (1, Itm.val (.int .i64 (j + 1)))] = some (Out.mk Xt.normal (frOf 68 [(0, (sB 0 n c)), (3, .int .i64 (↑n : Int)), (4, .int .i64 i), (5, .int .i64 (j + 1)), (8, .int .i64 (↑n : Int)), (9, .int .i64 i)]) [.ro 39 cs] [], true, [decide (j < (↑n : Int)) = true, decide (i = 0) = false, decide (i = 0) = false, decide (i = 0) = false, decide (i = 0) = false, decide (i = 0) = false, inside i n = true, decide (0 + Int.toNat i * 2 + 2 ≤ List.length cs) = true, Value.agg (List.toArray (List.take 2 (List.drop (0 + Int.toNat i * 2) cs))) = (a2 a0 a1), Value.int .i64 (IntKind.wrap .i64 (i + 1)) = .int .i64 (i + 1), inside (i + 1) n = true, decide (0 + Int.toNat (i + 1) * 2 + 2 ≤ List.length cs) = true, Value.agg (List.toArray (List.take 2 (List.drop (0 + Int.toNat (i + 1) * 2) cs))) = (a2 b0 b1), inside j n = true, decide (0 + Int.toNat j * 2 + 2 ≤ List.length cs) = true, Value.agg (List.toArray (List.take 2 (List.drop (0 + Int.toNat j * 2) cs))) = (a2 c0 c1), Value.int .i64 (IntKind.wrap .i64 (j + 1)) = .int .i64 (j + 1), (true && decide ((↑n : Int) ≠ 0)) = true, Value.int .i64 (Int.tmod (j + 1) (↑n : Int)) = .int .i64 ((j + 1) % (↑n : Int)), inside ((j + 1) % (↑n : Int)) n = true, decide (0 + Int.toNat ((j + 1) % (↑n : Int)) * 2 + 2 ≤ List.length cs) = true, Value.agg (List.toArray (List.take 2 (List.drop (0 + Int.toNat ((j + 1) % (↑n : Int)) * 2) cs))) = (a2 d0 d1), CallSpec Try.prog 93 [(a2 a0 a1), (a2 b0 b1), (a2 c0 c1), (a2 d0 d1)] [] (.mk (.bool (X.meetV a0 a1 b0 b1 c0 c1 d0 d1)) [] []), X.meetV a0 a1 b0 b1 c0 c1 d0 d1 = false, Value.int .i64 (IntKind.wrap .i64 (j + 1)) = .int .i64 (j + 1)]) := by kernel_rfl
theorem tang_in_pf : go (body (Try.prog) (8) (1) (8) (keepTI) (tang_inner) (frTI n c i j) ([.ro 39 cs])) [(4, .dec false)] = some (Out.mk (Xt.exit 2) (frOf 68 [(0, (sB 0 n c)), (3, .int .i64 (↑n : Int)), (4, .int .i64 i), (5, .int .i64 j), (8, .int .i64 (↑n : Int)), (9, .int .i64 i)]) [.ro 39 cs] [], true, [decide (j < (↑n : Int)) = false]) := by kernel_rfl
theorem tang_in (R : Out) (k_pttt : (h0 : j < (↑n : Int)) → (h1 : i = 0) → (h2 : j = (↑n : Int) - 1) → Out.le (Out.mk Xt.normal (frOf 68 [(0, (sB 0 n c)), (3, .int .i64 (↑n : Int)), (4, .int .i64 i), (5, .int .i64 (j + 1)), (8, .int .i64 (↑n : Int)), (9, .int .i64 i)]) [.ro 39 cs] []) R) (k_pttft : (h0 : j < (↑n : Int)) → (h1 : i = 0) → (h2 : ¬ (j = (↑n : Int) - 1)) → (h3 : X.meetV a0 a1 b0 b1 c0 c1 d0 d1 = true) → Out.le (Out.mk Xt.ret (frOf 68 [(2, .bool true)]) [.ro 39 cs] []) R) (k_pttff : (h0 : j < (↑n : Int)) → (h1 : i = 0) → (h2 : ¬ (j = (↑n : Int) - 1)) → (h3 : ¬ (X.meetV a0 a1 b0 b1 c0 c1 d0 d1 = true)) → Out.le (Out.mk Xt.normal (frOf 68 [(0, (sB 0 n c)), (3, .int .i64 (↑n : Int)), (4, .int .i64 i), (5, .int .i64 (j + 1)), (8, .int .i64 (↑n : Int)), (9, .int .i64 i)]) [.ro 39 cs] []) R) (k_ptft : (h0 : j < (↑n : Int)) → (h1 : ¬ (i = 0)) → (h2 : X.meetV a0 a1 b0 b1 c0 c1 d0 d1 = true) → Out.le (Out.mk Xt.ret (frOf 68 [(2, .bool true)]) [.ro 39 cs] []) R) (k_ptff : (h0 : j < (↑n : Int)) → (h1 : ¬ (i = 0)) → (h2 : ¬ (X.meetV a0 a1 b0 b1 c0 c1 d0 d1 = true)) → Out.le (Out.mk Xt.normal (frOf 68 [(0, (sB 0 n c)), (3, .int .i64 (↑n : Int)), (4, .int .i64 i), (5, .int .i64 (j + 1)), (8, .int .i64 (↑n : Int)), (9, .int .i64 i)]) [.ro 39 cs] []) R) (k_pf : (h0 : ¬ (j < (↑n : Int))) → Out.le (Out.mk (Xt.exit 2) (frOf 68 [(0, (sB 0 n c)), (3, .int .i64 (↑n : Int)), (4, .int .i64 i), (5, .int .i64 j), (8, .int .i64 (↑n : Int)), (9, .int .i64 i)]) [.ro 39 cs] []) R) : CodeSpec (Try.prog) (1) (tang_inner) (frTI n c i j) ([.ro 39 cs]) R := by
  by_cases h0 : j < (↑n : Int)
  · by_cases h1 : i = 0
    · by_cases h2 : j = (↑n : Int) - 1
      · exact (CodeSpec.id (go_ok (body_ok tnamed tcalm tmixed _ _ _ _ _ _ tang_inner_calm) (tang_in_pttt n c cs i j a0 a1 b0 b1 c0 c1 d0 d1 hi hn hl hm hA hB hC hD ) (aC (dTq h0) (aC (dTq h1) (aC (dTq h1) (aC (dTq h1) (aC (congrArg (Value.int _) (Go.IntWalk.i64_in _ (by omega))) (aC (dTq h1) (aC (dTq h1) (aC (dTq h2) (aC (congrArg (Value.int _) (Go.IntWalk.i64_in _ (by omega))) aN))))))))))).le (k_pttt h0 h1 h2)
      · by_cases h3 : X.meetV a0 a1 b0 b1 c0 c1 d0 d1 = true
        · exact (CodeSpec.id (go_ok (body_ok tnamed tcalm tmixed _ _ _ _ _ _ tang_inner_calm) (tang_in_pttft n c cs i j a0 a1 b0 b1 c0 c1 d0 d1 hi hn hl hm hA hB hC hD ) (aC (dTq h0) (aC (dTq h1) (aC (dTq h1) (aC (dTq h1) (aC (congrArg (Value.int _) (Go.IntWalk.i64_in _ (by omega))) (aC (dTq h1) (aC (dTq h1) (aC (dFq h2) (aC (inside_of (by omega)) (aC dO (aC ((hA (by omega))) (aC (congrArg (Value.int _) (Go.IntWalk.i64_in _ (by omega))) (aC (inside_of (by omega)) (aC dO (aC ((hB (by omega))) (aC (inside_of (by omega)) (aC dO (aC ((hC (by omega))) (aC (congrArg (Value.int _) (Go.IntWalk.i64_in _ (by omega))) (aC ((by simp [ByteArray.size_append, ByteArray.size_extract, sz_mk] <;> omega)) (aC (congrArg (Value.int _) (Int.tmod_eq_emod_of_nonneg (by omega))) (aC (inside_of (by omega)) (aC dO (aC ((hD (by omega))) (aC ((meet_done _ _ _ _ _ _ _ _)) (aC (h3) aN)))))))))))))))))))))))))))).le (k_pttft h0 h1 h2 h3)
        · exact (CodeSpec.id (go_ok (body_ok tnamed tcalm tmixed _ _ _ _ _ _ tang_inner_calm) (tang_in_pttff n c cs i j a0 a1 b0 b1 c0 c1 d0 d1 hi hn hl hm hA hB hC hD ) (aC (dTq h0) (aC (dTq h1) (aC (dTq h1) (aC (dTq h1) (aC (congrArg (Value.int _) (Go.IntWalk.i64_in _ (by omega))) (aC (dTq h1) (aC (dTq h1) (aC (dFq h2) (aC (inside_of (by omega)) (aC dO (aC ((hA (by omega))) (aC (congrArg (Value.int _) (Go.IntWalk.i64_in _ (by omega))) (aC (inside_of (by omega)) (aC dO (aC ((hB (by omega))) (aC (inside_of (by omega)) (aC dO (aC ((hC (by omega))) (aC (congrArg (Value.int _) (Go.IntWalk.i64_in _ (by omega))) (aC ((by simp [ByteArray.size_append, ByteArray.size_extract, sz_mk] <;> omega)) (aC (congrArg (Value.int _) (Int.tmod_eq_emod_of_nonneg (by omega))) (aC (inside_of (by omega)) (aC dO (aC ((hD (by omega))) (aC ((meet_done _ _ _ _ _ _ _ _)) (aC ((bF h3)) (aC (congrArg (Value.int _) (Go.IntWalk.i64_in _ (by omega))) aN))))))))))))))))))))))))))))).le (k_pttff h0 h1 h2 h3)
    · by_cases h2 : X.meetV a0 a1 b0 b1 c0 c1 d0 d1 = true
      · exact (CodeSpec.id (go_ok (body_ok tnamed tcalm tmixed _ _ _ _ _ _ tang_inner_calm) (tang_in_ptft n c cs i j a0 a1 b0 b1 c0 c1 d0 d1 hi hn hl hm hA hB hC hD ) (aC (dTq h0) (aC (dFq h1) (aC (dFq h1) (aC (dFq h1) (aC (dFq h1) (aC (dFq h1) (aC (inside_of (by omega)) (aC dO (aC ((hA (by omega))) (aC (congrArg (Value.int _) (Go.IntWalk.i64_in _ (by omega))) (aC (inside_of (by omega)) (aC dO (aC ((hB (by omega))) (aC (inside_of (by omega)) (aC dO (aC ((hC (by omega))) (aC (congrArg (Value.int _) (Go.IntWalk.i64_in _ (by omega))) (aC ((by simp [ByteArray.size_append, ByteArray.size_extract, sz_mk] <;> omega)) (aC (congrArg (Value.int _) (Int.tmod_eq_emod_of_nonneg (by omega))) (aC (inside_of (by omega)) (aC dO (aC ((hD (by omega))) (aC ((meet_done _ _ _ _ _ _ _ _)) (aC (h2) aN)))))))))))))))))))))))))).le (k_ptft h0 h1 h2)
      · exact (CodeSpec.id (go_ok (body_ok tnamed tcalm tmixed _ _ _ _ _ _ tang_inner_calm) (tang_in_ptff n c cs i j a0 a1 b0 b1 c0 c1 d0 d1 hi hn hl hm hA hB hC hD ) (aC (dTq h0) (aC (dFq h1) (aC (dFq h1) (aC (dFq h1) (aC (dFq h1) (aC (dFq h1) (aC (inside_of (by omega)) (aC dO (aC ((hA (by omega))) (aC (congrArg (Value.int _) (Go.IntWalk.i64_in _ (by omega))) (aC (inside_of (by omega)) (aC dO (aC ((hB (by omega))) (aC (inside_of (by omega)) (aC dO (aC ((hC (by omega))) (aC (congrArg (Value.int _) (Go.IntWalk.i64_in _ (by omega))) (aC ((by simp [ByteArray.size_append, ByteArray.size_extract, sz_mk] <;> omega)) (aC (congrArg (Value.int _) (Int.tmod_eq_emod_of_nonneg (by omega))) (aC (inside_of (by omega)) (aC dO (aC ((hD (by omega))) (aC ((meet_done _ _ _ _ _ _ _ _)) (aC ((bF h2)) (aC (congrArg (Value.int _) (Go.IntWalk.i64_in _ (by omega))) aN))))))))))))))))))))))))))).le (k_ptff h0 h1 h2)
  · exact (CodeSpec.id (go_ok (body_ok tnamed tcalm tmixed _ _ _ _ _ _ tang_inner_calm) (tang_in_pf n c cs i j a0 a1 b0 b1 c0 c1 d0 d1 hi hn hl hm hA hB hC hD ) (aC (dFq h0) aN))).le (k_pf h0)
end
section
variable (n c : Nat) (cs : List Value) (i je a0 a1 b0 b1 c0 c1 : Int) (hi : 0 ≤ i ∧ i ≤ (↑n : Int)) (hn : n ≤ 64) (hl : List.length cs = n * 2) (hm : 0 ≤ (i + 1) % (↑n : Int) ∧ (i + 1) % (↑n : Int) < (↑n : Int)) (hm2 : 0 ≤ (i + 2) % (↑n : Int) ∧ (i + 2) % (↑n : Int) < (↑n : Int)) (hA : i < (↑n : Int) → ptAt cs i a0 a1) (hB : i < (↑n : Int) → ptAt cs ((i + 1) % (↑n : Int)) b0 b1) (hC : i < (↑n : Int) → ptAt cs ((i + 2) % (↑n : Int)) c0 c1) (hL : CodeSpec Try.prog 1 tang_innerC (frTI n c i (i + 2)) [.ro 39 cs] (Out.mk (Xt.exit 2) (frTI n c i je) [.ro 39 cs] []))
include n c cs i je a0 a1 b0 b1 c0 c1 hi hn hl hm hm2 hA hB hC hL
theorem tang_outF_ptt : go (body (Try.prog) (8) (1) (8) (keepTO) (tang_outer) (frTO n c i) ([.ro 39 cs])) [(2, .dec true), (5, Itm.must), (1, Itm.must), (0, Itm.val ((a2 a0 a1))), (2, Itm.val (.int .i64 (i + 1))), (1, Itm.must), (0, Itm.val (.int .i64 ((i + 1) % (↑n : Int)))), (0, Itm.must), (1, Itm.must), (0, Itm.val ((a2 b0 b1))), (2, Itm.val (.int .i64 (i + 2))), (1, Itm.must), (0, Itm.val (.int .i64 ((i + 2) % (↑n : Int)))), (0, Itm.must), (1, Itm.must), (0, Itm.val ((a2 c0 c1))), (0, .call (.mk (.bool (X.spikeV a0 a1 b0 b1 c0 c1)) [] [])), (3, .dec true)] = some (Out.mk Xt.ret (frOf 68 [(2, .bool true)]) [.ro 39 cs] [], true, [decide (i < (↑n : Int)) = true, inside i n = true, decide (0 + Int.toNat i * 2 + 2 ≤ List.length cs) = true, Value.agg (List.toArray (List.take 2 (List.drop (0 + Int.toNat i * 2) cs))) = (a2 a0 a1), Value.int .i64 (IntKind.wrap .i64 (i + 1)) = .int .i64 (i + 1), (true && decide ((↑n : Int) ≠ 0)) = true, Value.int .i64 (Int.tmod (i + 1) (↑n : Int)) = .int .i64 ((i + 1) % (↑n : Int)), inside ((i + 1) % (↑n : Int)) n = true, decide (0 + Int.toNat ((i + 1) % (↑n : Int)) * 2 + 2 ≤ List.length cs) = true, Value.agg (List.toArray (List.take 2 (List.drop (0 + Int.toNat ((i + 1) % (↑n : Int)) * 2) cs))) = (a2 b0 b1), Value.int .i64 (IntKind.wrap .i64 (i + 2)) = .int .i64 (i + 2), (true && decide ((↑n : Int) ≠ 0)) = true, Value.int .i64 (Int.tmod (i + 2) (↑n : Int)) = .int .i64 ((i + 2) % (↑n : Int)), inside ((i + 2) % (↑n : Int)) n = true, decide (0 + Int.toNat ((i + 2) % (↑n : Int)) * 2 + 2 ≤ List.length cs) = true, Value.agg (List.toArray (List.take 2 (List.drop (0 + Int.toNat ((i + 2) % (↑n : Int)) * 2) cs))) = (a2 c0 c1), CallSpec Try.prog 92 [(a2 a0 a1), (a2 b0 b1), (a2 c0 c1)] [] (.mk (.bool (X.spikeV a0 a1 b0 b1 c0 c1)) [] []), X.spikeV a0 a1 b0 b1 c0 c1 = true]) := by kernel_rfl
theorem tang_outF_ptf : go (body (Try.prog) (8) (1) (8) (keepTO) (tang_outer) (frTO n c i) ([.ro 39 cs])) [(2, .dec true), (5, Itm.must), (1, Itm.must), (0, Itm.val ((a2 a0 a1))), (2, Itm.val (.int .i64 (i + 1))), (1, Itm.must), (0, Itm.val (.int .i64 ((i + 1) % (↑n : Int)))), (0, Itm.must), (1, Itm.must), (0, Itm.val ((a2 b0 b1))), (2, Itm.val (.int .i64 (i + 2))), (1, Itm.must), (0, Itm.val (.int .i64 ((i + 2) % (↑n : Int)))), (0, Itm.must), (1, Itm.must), (0, Itm.val ((a2 c0 c1))), (0, .call (.mk (.bool (X.spikeV a0 a1 b0 b1 c0 c1)) [] [])), (3, .dec false), (1, Itm.val (.int .i64 (i + 2))), (2, Itm.loop [0, 3, 4, 5, 8, 9] (Out.mk (Xt.exit 2) (frOf 68 [(0, (sB 0 n c)), (3, .int .i64 (↑n : Int)), (4, .int .i64 i), (5, .int .i64 je), (8, .int .i64 (↑n : Int)), (9, .int .i64 i)]) [.ro 39 cs] [])), (0, Itm.val (.int .i64 (i + 1)))] = some (Out.mk Xt.normal (frOf 68 [(0, (sB 0 n c)), (3, .int .i64 (↑n : Int)), (8, .int .i64 (↑n : Int)), (9, .int .i64 (i + 1))]) [.ro 39 cs] [], true, [decide (i < (↑n : Int)) = true, inside i n = true, decide (0 + Int.toNat i * 2 + 2 ≤ List.length cs) = true, Value.agg (List.toArray (List.take 2 (List.drop (0 + Int.toNat i * 2) cs))) = (a2 a0 a1), Value.int .i64 (IntKind.wrap .i64 (i + 1)) = .int .i64 (i + 1), (true && decide ((↑n : Int) ≠ 0)) = true, Value.int .i64 (Int.tmod (i + 1) (↑n : Int)) = .int .i64 ((i + 1) % (↑n : Int)), inside ((i + 1) % (↑n : Int)) n = true, decide (0 + Int.toNat ((i + 1) % (↑n : Int)) * 2 + 2 ≤ List.length cs) = true, Value.agg (List.toArray (List.take 2 (List.drop (0 + Int.toNat ((i + 1) % (↑n : Int)) * 2) cs))) = (a2 b0 b1), Value.int .i64 (IntKind.wrap .i64 (i + 2)) = .int .i64 (i + 2), (true && decide ((↑n : Int) ≠ 0)) = true, Value.int .i64 (Int.tmod (i + 2) (↑n : Int)) = .int .i64 ((i + 2) % (↑n : Int)), inside ((i + 2) % (↑n : Int)) n = true, decide (0 + Int.toNat ((i + 2) % (↑n : Int)) * 2 + 2 ≤ List.length cs) = true, Value.agg (List.toArray (List.take 2 (List.drop (0 + Int.toNat ((i + 2) % (↑n : Int)) * 2) cs))) = (a2 c0 c1), CallSpec Try.prog 92 [(a2 a0 a1), (a2 b0 b1), (a2 c0 c1)] [] (.mk (.bool (X.spikeV a0 a1 b0 b1 c0 c1)) [] []), X.spikeV a0 a1 b0 b1 c0 c1 = false, Value.int .i64 (IntKind.wrap .i64 (i + 2)) = .int .i64 (i + 2), type_of% hL, Value.int .i64 (IntKind.wrap .i64 (i + 1)) = .int .i64 (i + 1)]) := by kernel_rfl
theorem tang_outF_pf : go (body (Try.prog) (8) (1) (8) (keepTO) (tang_outer) (frTO n c i) ([.ro 39 cs])) [(2, .dec false)] = some (Out.mk (Xt.exit 0) (frOf 68 [(0, (sB 0 n c)), (3, .int .i64 (↑n : Int)), (8, .int .i64 (↑n : Int)), (9, .int .i64 i)]) [.ro 39 cs] [], true, [decide (i < (↑n : Int)) = false]) := by kernel_rfl
theorem tang_outF (R : Out) (k_ptt : (h0 : i < (↑n : Int)) → (h1 : X.spikeV a0 a1 b0 b1 c0 c1 = true) → Out.le (Out.mk Xt.ret (frOf 68 [(2, .bool true)]) [.ro 39 cs] []) R) (k_ptf : (h0 : i < (↑n : Int)) → (h1 : ¬ (X.spikeV a0 a1 b0 b1 c0 c1 = true)) → Out.le (Out.mk Xt.normal (frOf 68 [(0, (sB 0 n c)), (3, .int .i64 (↑n : Int)), (8, .int .i64 (↑n : Int)), (9, .int .i64 (i + 1))]) [.ro 39 cs] []) R) (k_pf : (h0 : ¬ (i < (↑n : Int))) → Out.le (Out.mk (Xt.exit 0) (frOf 68 [(0, (sB 0 n c)), (3, .int .i64 (↑n : Int)), (8, .int .i64 (↑n : Int)), (9, .int .i64 i)]) [.ro 39 cs] []) R) : CodeSpec (Try.prog) (1) (tang_outer) (frTO n c i) ([.ro 39 cs]) R := by
  by_cases h0 : i < (↑n : Int)
  · by_cases h1 : X.spikeV a0 a1 b0 b1 c0 c1 = true
    · exact (CodeSpec.id (go_ok (body_ok tnamed tcalm tmixed _ _ _ _ _ _ tang_outer_calm) (tang_outF_ptt n c cs i je a0 a1 b0 b1 c0 c1 hi hn hl hm hm2 hA hB hC hL ) (aC (dTq h0) (aC (inside_of (by omega)) (aC dO (aC ((hA (by omega))) (aC (congrArg (Value.int _) (Go.IntWalk.i64_in _ (by omega))) (aC ((by simp [ByteArray.size_append, ByteArray.size_extract, sz_mk] <;> omega)) (aC (congrArg (Value.int _) (Int.tmod_eq_emod_of_nonneg (by omega))) (aC (inside_of (by omega)) (aC dO (aC ((hB (by omega))) (aC (congrArg (Value.int _) (Go.IntWalk.i64_in _ (by omega))) (aC ((by simp [ByteArray.size_append, ByteArray.size_extract, sz_mk] <;> omega)) (aC (congrArg (Value.int _) (Int.tmod_eq_emod_of_nonneg (by omega))) (aC (inside_of (by omega)) (aC dO (aC ((hC (by omega))) (aC ((spike_done _ _ _ _ _ _)) (aC (h1) aN)))))))))))))))))))).le (k_ptt h0 h1)
    · exact (CodeSpec.id (go_ok (body_ok tnamed tcalm tmixed _ _ _ _ _ _ tang_outer_calm) (tang_outF_ptf n c cs i je a0 a1 b0 b1 c0 c1 hi hn hl hm hm2 hA hB hC hL ) (aC (dTq h0) (aC (inside_of (by omega)) (aC dO (aC ((hA (by omega))) (aC (congrArg (Value.int _) (Go.IntWalk.i64_in _ (by omega))) (aC ((by simp [ByteArray.size_append, ByteArray.size_extract, sz_mk] <;> omega)) (aC (congrArg (Value.int _) (Int.tmod_eq_emod_of_nonneg (by omega))) (aC (inside_of (by omega)) (aC dO (aC ((hB (by omega))) (aC (congrArg (Value.int _) (Go.IntWalk.i64_in _ (by omega))) (aC ((by simp [ByteArray.size_append, ByteArray.size_extract, sz_mk] <;> omega)) (aC (congrArg (Value.int _) (Int.tmod_eq_emod_of_nonneg (by omega))) (aC (inside_of (by omega)) (aC dO (aC ((hC (by omega))) (aC ((spike_done _ _ _ _ _ _)) (aC ((bF h1)) (aC (congrArg (Value.int _) (Go.IntWalk.i64_in _ (by omega))) (aC (hL) (aC (congrArg (Value.int _) (Go.IntWalk.i64_in _ (by omega))) aN))))))))))))))))))))))).le (k_ptf h0 h1)
  · exact (CodeSpec.id (go_ok (body_ok tnamed tcalm tmixed _ _ _ _ _ _ tang_outer_calm) (tang_outF_pf n c cs i je a0 a1 b0 b1 c0 c1 hi hn hl hm hm2 hA hB hC hL ) (aC (dFq h0) aN))).le (k_pf h0)
end
section
variable (n c : Nat) (cs : List Value) (i a0 a1 b0 b1 c0 c1 : Int) (hi : 0 ≤ i ∧ i ≤ (↑n : Int)) (hn : n ≤ 64) (hl : List.length cs = n * 2) (hm : 0 ≤ (i + 1) % (↑n : Int) ∧ (i + 1) % (↑n : Int) < (↑n : Int)) (hm2 : 0 ≤ (i + 2) % (↑n : Int) ∧ (i + 2) % (↑n : Int) < (↑n : Int)) (hA : i < (↑n : Int) → ptAt cs i a0 a1) (hB : i < (↑n : Int) → ptAt cs ((i + 1) % (↑n : Int)) b0 b1) (hC : i < (↑n : Int) → ptAt cs ((i + 2) % (↑n : Int)) c0 c1) (hL : CodeSpec Try.prog 1 tang_innerC (frTI n c i (i + 2)) [.ro 39 cs] (Out.mk Xt.ret (frOf 68 [(2, .bool true)]) [.ro 39 cs] []))
include n c cs i a0 a1 b0 b1 c0 c1 hi hn hl hm hm2 hA hB hC hL
theorem tang_outT_ptt : go (body (Try.prog) (8) (1) (8) (keepTO) (tang_outer) (frTO n c i) ([.ro 39 cs])) [(2, .dec true), (5, Itm.must), (1, Itm.must), (0, Itm.val ((a2 a0 a1))), (2, Itm.val (.int .i64 (i + 1))), (1, Itm.must), (0, Itm.val (.int .i64 ((i + 1) % (↑n : Int)))), (0, Itm.must), (1, Itm.must), (0, Itm.val ((a2 b0 b1))), (2, Itm.val (.int .i64 (i + 2))), (1, Itm.must), (0, Itm.val (.int .i64 ((i + 2) % (↑n : Int)))), (0, Itm.must), (1, Itm.must), (0, Itm.val ((a2 c0 c1))), (0, .call (.mk (.bool (X.spikeV a0 a1 b0 b1 c0 c1)) [] [])), (3, .dec true)] = some (Out.mk Xt.ret (frOf 68 [(2, .bool true)]) [.ro 39 cs] [], true, [decide (i < (↑n : Int)) = true, inside i n = true, decide (0 + Int.toNat i * 2 + 2 ≤ List.length cs) = true, Value.agg (List.toArray (List.take 2 (List.drop (0 + Int.toNat i * 2) cs))) = (a2 a0 a1), Value.int .i64 (IntKind.wrap .i64 (i + 1)) = .int .i64 (i + 1), (true && decide ((↑n : Int) ≠ 0)) = true, Value.int .i64 (Int.tmod (i + 1) (↑n : Int)) = .int .i64 ((i + 1) % (↑n : Int)), inside ((i + 1) % (↑n : Int)) n = true, decide (0 + Int.toNat ((i + 1) % (↑n : Int)) * 2 + 2 ≤ List.length cs) = true, Value.agg (List.toArray (List.take 2 (List.drop (0 + Int.toNat ((i + 1) % (↑n : Int)) * 2) cs))) = (a2 b0 b1), Value.int .i64 (IntKind.wrap .i64 (i + 2)) = .int .i64 (i + 2), (true && decide ((↑n : Int) ≠ 0)) = true, Value.int .i64 (Int.tmod (i + 2) (↑n : Int)) = .int .i64 ((i + 2) % (↑n : Int)), inside ((i + 2) % (↑n : Int)) n = true, decide (0 + Int.toNat ((i + 2) % (↑n : Int)) * 2 + 2 ≤ List.length cs) = true, Value.agg (List.toArray (List.take 2 (List.drop (0 + Int.toNat ((i + 2) % (↑n : Int)) * 2) cs))) = (a2 c0 c1), CallSpec Try.prog 92 [(a2 a0 a1), (a2 b0 b1), (a2 c0 c1)] [] (.mk (.bool (X.spikeV a0 a1 b0 b1 c0 c1)) [] []), X.spikeV a0 a1 b0 b1 c0 c1 = true]) := by kernel_rfl
theorem tang_outT_ptf : go (body (Try.prog) (8) (1) (8) (keepTO) (tang_outer) (frTO n c i) ([.ro 39 cs])) [(2, .dec true), (5, Itm.must), (1, Itm.must), (0, Itm.val ((a2 a0 a1))), (2, Itm.val (.int .i64 (i + 1))), (1, Itm.must), (0, Itm.val (.int .i64 ((i + 1) % (↑n : Int)))), (0, Itm.must), (1, Itm.must), (0, Itm.val ((a2 b0 b1))), (2, Itm.val (.int .i64 (i + 2))), (1, Itm.must), (0, Itm.val (.int .i64 ((i + 2) % (↑n : Int)))), (0, Itm.must), (1, Itm.must), (0, Itm.val ((a2 c0 c1))), (0, .call (.mk (.bool (X.spikeV a0 a1 b0 b1 c0 c1)) [] [])), (3, .dec false), (1, Itm.val (.int .i64 (i + 2))), (2, Itm.loop [0, 3, 4, 5, 8, 9] (Out.mk Xt.ret (frOf 68 [(2, .bool true)]) [.ro 39 cs] []))] = some (Out.mk Xt.ret (frOf 68 [(2, .bool true)]) [.ro 39 cs] [], true, [decide (i < (↑n : Int)) = true, inside i n = true, decide (0 + Int.toNat i * 2 + 2 ≤ List.length cs) = true, Value.agg (List.toArray (List.take 2 (List.drop (0 + Int.toNat i * 2) cs))) = (a2 a0 a1), Value.int .i64 (IntKind.wrap .i64 (i + 1)) = .int .i64 (i + 1), (true && decide ((↑n : Int) ≠ 0)) = true, Value.int .i64 (Int.tmod (i + 1) (↑n : Int)) = .int .i64 ((i + 1) % (↑n : Int)), inside ((i + 1) % (↑n : Int)) n = true, decide (0 + Int.toNat ((i + 1) % (↑n : Int)) * 2 + 2 ≤ List.length cs) = true, Value.agg (List.toArray (List.take 2 (List.drop (0 + Int.toNat ((i + 1) % (↑n : Int)) * 2) cs))) = (a2 b0 b1), Value.int .i64 (IntKind.wrap .i64 (i + 2)) = .int .i64 (i + 2), (true && decide ((↑n : Int) ≠ 0)) = true, Value.int .i64 (Int.tmod (i + 2) (↑n : Int)) = .int .i64 ((i + 2) % (↑n : Int)), inside ((i + 2) % (↑n : Int)) n = true, decide (0 + Int.toNat ((i + 2) % (↑n : Int)) * 2 + 2 ≤ List.length cs) = true, Value.agg (List.toArray (List.take 2 (List.drop (0 + Int.toNat ((i + 2) % (↑n : Int)) * 2) cs))) = (a2 c0 c1), CallSpec Try.prog 92 [(a2 a0 a1), (a2 b0 b1), (a2 c0 c1)] [] (.mk (.bool (X.spikeV a0 a1 b0 b1 c0 c1)) [] []), X.spikeV a0 a1 b0 b1 c0 c1 = false, Value.int .i64 (IntKind.wrap .i64 (i + 2)) = .int .i64 (i + 2), type_of% hL]) := by kernel_rfl
theorem tang_outT_pf : go (body (Try.prog) (8) (1) (8) (keepTO) (tang_outer) (frTO n c i) ([.ro 39 cs])) [(2, .dec false)] = some (Out.mk (Xt.exit 0) (frOf 68 [(0, (sB 0 n c)), (3, .int .i64 (↑n : Int)), (8, .int .i64 (↑n : Int)), (9, .int .i64 i)]) [.ro 39 cs] [], true, [decide (i < (↑n : Int)) = false]) := by kernel_rfl
theorem tang_outT (R : Out) (k_ptt : (h0 : i < (↑n : Int)) → (h1 : X.spikeV a0 a1 b0 b1 c0 c1 = true) → Out.le (Out.mk Xt.ret (frOf 68 [(2, .bool true)]) [.ro 39 cs] []) R) (k_ptf : (h0 : i < (↑n : Int)) → (h1 : ¬ (X.spikeV a0 a1 b0 b1 c0 c1 = true)) → Out.le (Out.mk Xt.ret (frOf 68 [(2, .bool true)]) [.ro 39 cs] []) R) (k_pf : (h0 : ¬ (i < (↑n : Int))) → Out.le (Out.mk (Xt.exit 0) (frOf 68 [(0, (sB 0 n c)), (3, .int .i64 (↑n : Int)), (8, .int .i64 (↑n : Int)), (9, .int .i64 i)]) [.ro 39 cs] []) R) : CodeSpec (Try.prog) (1) (tang_outer) (frTO n c i) ([.ro 39 cs]) R := by
  by_cases h0 : i < (↑n : Int)
  · by_cases h1 : X.spikeV a0 a1 b0 b1 c0 c1 = true
    · exact (CodeSpec.id (go_ok (body_ok tnamed tcalm tmixed _ _ _ _ _ _ tang_outer_calm) (tang_outT_ptt n c cs i a0 a1 b0 b1 c0 c1 hi hn hl hm hm2 hA hB hC hL ) (aC (dTq h0) (aC (inside_of (by omega)) (aC dO (aC ((hA (by omega))) (aC (congrArg (Value.int _) (Go.IntWalk.i64_in _ (by omega))) (aC ((by simp [ByteArray.size_append, ByteArray.size_extract, sz_mk] <;> omega)) (aC (congrArg (Value.int _) (Int.tmod_eq_emod_of_nonneg (by omega))) (aC (inside_of (by omega)) (aC dO (aC ((hB (by omega))) (aC (congrArg (Value.int _) (Go.IntWalk.i64_in _ (by omega))) (aC ((by simp [ByteArray.size_append, ByteArray.size_extract, sz_mk] <;> omega)) (aC (congrArg (Value.int _) (Int.tmod_eq_emod_of_nonneg (by omega))) (aC (inside_of (by omega)) (aC dO (aC ((hC (by omega))) (aC ((spike_done _ _ _ _ _ _)) (aC (h1) aN)))))))))))))))))))).le (k_ptt h0 h1)
    · exact (CodeSpec.id (go_ok (body_ok tnamed tcalm tmixed _ _ _ _ _ _ tang_outer_calm) (tang_outT_ptf n c cs i a0 a1 b0 b1 c0 c1 hi hn hl hm hm2 hA hB hC hL ) (aC (dTq h0) (aC (inside_of (by omega)) (aC dO (aC ((hA (by omega))) (aC (congrArg (Value.int _) (Go.IntWalk.i64_in _ (by omega))) (aC ((by simp [ByteArray.size_append, ByteArray.size_extract, sz_mk] <;> omega)) (aC (congrArg (Value.int _) (Int.tmod_eq_emod_of_nonneg (by omega))) (aC (inside_of (by omega)) (aC dO (aC ((hB (by omega))) (aC (congrArg (Value.int _) (Go.IntWalk.i64_in _ (by omega))) (aC ((by simp [ByteArray.size_append, ByteArray.size_extract, sz_mk] <;> omega)) (aC (congrArg (Value.int _) (Int.tmod_eq_emod_of_nonneg (by omega))) (aC (inside_of (by omega)) (aC dO (aC ((hC (by omega))) (aC ((spike_done _ _ _ _ _ _)) (aC ((bF h1)) (aC (congrArg (Value.int _) (Go.IntWalk.i64_in _ (by omega))) (aC (hL) aN)))))))))))))))))))))).le (k_ptf h0 h1)
  · exact (CodeSpec.id (go_ok (body_ok tnamed tcalm tmixed _ _ _ _ _ _ tang_outer_calm) (tang_outT_pf n c cs i a0 a1 b0 b1 c0 c1 hi hn hl hm hm2 hA hB hC hL ) (aC (dFq h0) aN))).le (k_pf h0)
end
section
variable (n c : Nat) (cs : List Value) (hL : CodeSpec Try.prog 1 tang_outerC (frTO n c 0) [.ro 39 cs] (Out.mk Xt.ret (frOf 68 [(2, .bool true)]) [.ro 39 cs] []))
include n c cs hL
theorem tang_okT_p : go (exec (Try.prog) (8) (75) ([(sB 0 n c)]) ([.ro 39 cs])) [(10, Itm.loop [0, 3, 8, 9] (Out.mk Xt.ret (frOf 68 [(2, .bool true)]) [.ro 39 cs] []))] = some (.mk (.bool true) [.ro 39 cs] [], true, [type_of% hL]) := by kernel_rfl
theorem tang_okT (R : Res) (k_p : Res.le (.mk (.bool true) [.ro 39 cs] []) R) : CallSpec (Try.prog) (75) ([(sB 0 n c)]) ([.ro 39 cs]) R := by
  exact (CallSpec.id (go_ok (exec_ok tnamed tcalm tmixed _ _ _ _) (tang_okT_p n c cs hL ) (aC (hL) aN))).le (k_p )
end
section
variable (n c : Nat) (cs : List Value) (hL : CodeSpec Try.prog 1 tang_outerC (frTO n c 0) [.ro 39 cs] (Out.mk (Xt.exit 0) (frTO n c (↑n : Int)) [.ro 39 cs] []))
include n c cs hL
theorem tang_okF_p : go (exec (Try.prog) (8) (75) ([(sB 0 n c)]) ([.ro 39 cs])) [(10, Itm.loop [0, 3, 8, 9] (Out.mk (Xt.exit 0) (frOf 68 [(0, (sB 0 n c)), (3, .int .i64 (↑n : Int)), (8, .int .i64 (↑n : Int)), (9, .int .i64 (↑n : Int))]) [.ro 39 cs] []))] = some (.mk (.bool false) [.ro 39 cs] [], true, [type_of% hL]) := by kernel_rfl
theorem tang_okF (R : Res) (k_p : Res.le (.mk (.bool false) [.ro 39 cs] []) R) : CallSpec (Try.prog) (75) ([(sB 0 n c)]) ([.ro 39 cs]) R := by
  exact (CallSpec.id (go_ok (exec_ok tnamed tcalm tmixed _ _ _ _) (tang_okF_p n c cs hL ) (aC (hL) aN))).le (k_p )
end
section
variable (n c : Nat) (cs : List Value) (hn : n ≤ 64) (hl : List.length cs = n * 2)
include n c cs hn hl
theorem tang_outEnd_p : go (body (Try.prog) (8) (1) (8) (keepTO) (tang_outer) (frTO n c (↑n : Int)) ([.ro 39 cs])) [(2, .dec false)] = some (Out.mk (Xt.exit 0) (frOf 68 [(0, (sB 0 n c)), (3, .int .i64 (↑n : Int)), (8, .int .i64 (↑n : Int)), (9, .int .i64 (↑n : Int))]) [.ro 39 cs] [], true, [decide ((↑n : Int) < (↑n : Int)) = false]) := by kernel_rfl
theorem tang_outEnd (R : Out) (k_p : Out.le (Out.mk (Xt.exit 0) (frOf 68 [(0, (sB 0 n c)), (3, .int .i64 (↑n : Int)), (8, .int .i64 (↑n : Int)), (9, .int .i64 (↑n : Int))]) [.ro 39 cs] []) R) : CodeSpec (Try.prog) (1) (tang_outer) (frTO n c (↑n : Int)) ([.ro 39 cs]) R := by
  exact (CodeSpec.id (go_ok (body_ok tnamed tcalm tmixed _ _ _ _ _ _ tang_outer_calm) (tang_outEnd_p n c cs hn hl ) (aC dN aN))).le (k_p )
end
end Go.Proofs.Ytjalkjeldlchoaa.Ex
end
section
set_option linter.unusedSectionVars false
set_option linter.unusedSimpArgs false
set_option linter.unusedVariables false
namespace Go.Proofs.Ytjalkjeldlchoaa.Ex
open Go Go.RowKit Go.Proofs.Ytjalkjeldlchoaa.X
set_option linter.unusedVariables false
def pc (l : List S23) : List Value := l.flatMap fun p => [.int .i64 p.f0, .int .i64 p.f1]
theorem pc_cons (p : S23) (l : List S23) : pc (p :: l) = .int .i64 p.f0 :: .int .i64 p.f1 :: pc l := rfl
theorem pc_len : ∀ l : List S23, (pc l).length = l.length * 2
  | [] => rfl
  | p :: l => by rw [pc_cons, List.length_cons, List.length_cons, pc_len l, List.length_cons]; omega
theorem pc_two : ∀ (l : List S23) (i : Nat), i < l.length → (pc l).drop (i * 2) = .int .i64 (pt l i).f0 :: .int .i64 (pt l i).f1 :: (pc l).drop (i * 2 + 2)
  | [], i, h => absurd h (Nat.not_lt_zero i)
  | p :: l, 0, _ => rfl
  | p :: l, i + 1, h => by
    have e := pc_two l i (Nat.lt_of_succ_lt_succ h)
    rw [show (i + 1) * 2 = i * 2 + 1 + 1 by omega, pc_cons]
    simp only [List.drop_succ_cons]
    rw [e]
    rfl
theorem ptAt_of {l : List S23} {i : Nat} (h : i < l.length) : ptAt (pc l) (i : Int) (pt l i).f0 (pt l i).f1 := by
  unfold ptAt
  rw [Int.toNat_natCast, Nat.zero_add, pc_two l i h]
  rfl
theorem nx_of {l : List S23} {i : Nat} (h : 0 < l.length) (k : Int) (e : k = (i : Int)) : ptAt (pc l) (k % (l.length : Int)) (nx l i).f0 (nx l i).f1 := by
  have hm : i % l.length < l.length := Nat.mod_lt _ h
  rw [e, ← Int.natCast_emod]
  exact ptAt_of hm
theorem mod_in {n : Nat} (k : Int) (h : 0 < n) : 0 ≤ k % (n : Int) ∧ k % (n : Int) < n := ⟨Int.emod_nonneg _ (by omega), Int.emod_lt_of_pos _ (by omega)⟩
abbrev sl0 (n c : Nat) : Value := .slice (some ⟨0, 0, none⟩) n c
theorem out_eq {o : Out} : Out.le o o := ⟨rfl, rfl, rfl, fun j hj => hj⟩
theorem inner_rounds {l : List S23} {c i : Nat} (hi : i < l.length) (hn : l.length ≤ 64) : ∀ (m j : Nat), l.length - j = m → i + 2 ≤ j → j ≤ l.length + 1 →
    (inner l i m = true → LoopSpec Try.prog 1 tang_inner (frTI l.length c i j) [.ro 39 (pc l)] ⟨.ret, frOf 68 [(2, .bool true)], [.ro 39 (pc l)], []⟩) ∧
    (inner l i m = false → LoopSpec Try.prog 1 tang_inner (frTI l.length c i j) [.ro 39 (pc l)] ⟨.exit 2, frTI l.length c i (max j l.length : Nat), [.ro 39 (pc l)], []⟩)
  | 0, j, hm, h1, h2 => by
    refine ⟨fun h => (by cases h), fun _ => ?_⟩
    have e : max j l.length = j := by omega
    rw [e]
    refine .last (tang_in l.length c (pc l) i j 0 0 0 0 0 0 0 0 (by omega) hn (pc_len l) (mod_in _ (by omega)) (fun h => by omega) (fun h => by omega) (fun h => by omega) (fun h => by omega) _ (fun h => by omega) (fun h => by omega) (fun h => by omega) (fun h => by omega) (fun h => by omega) (fun _ => out_eq)) (by intro h; cases h)
  | m + 1, j, hm, h1, h2 => by
    have ih := inner_rounds (c := c) hi hn m (j + 1) (by omega) (by omega) (by omega)
    have ej : l.length - (m + 1) = j := by omega
    have round := tang_in l.length c (pc l) i j _ _ _ _ _ _ _ _ (by omega) hn (pc_len l) (mod_in _ (by omega)) (fun _ => ptAt_of hi) (fun _ => ptAt_of (i := i + 1) (by omega)) (fun _ => ptAt_of (i := j) (by omega)) (fun _ => nx_of (i := j + 1) (by omega) _ rfl)
    have pe : meetV (pt l i).f0 (pt l i).f1 (pt l (i + 1)).f0 (pt l (i + 1)).f1 (pt l j).f0 (pt l j).f1 (nx l (j + 1)).f0 (nx l (j + 1)).f1 = pairAt l i j := rfl
    rw [pe] at round
    have next : (((j : Nat) : Int) + 1) = ((j + 1 : Nat) : Int) := rfl
    have em : max (j + 1) l.length = max j l.length := by omega
    rw [em] at ih
    rw [inner, ej]
    by_cases c1 : i = 0 ∧ j = l.length - 1
    · rw [if_pos c1, Bool.false_or]
      have go : ∀ o, LoopSpec Try.prog 1 tang_inner (frTI l.length c i ((j + 1 : Nat) : Int)) [.ro 39 (pc l)] o → LoopSpec Try.prog 1 tang_inner (frTI l.length c i j) [.ro 39 (pc l)] o := fun o ho =>
        .more (o1 := ⟨.normal, frTI l.length c i ((j + 1 : Nat) : Int), [.ro 39 (pc l)], []⟩) (round _ (fun _ _ _ => out_eq) (fun _ _ h => absurd (by omega) h) (fun _ _ h => absurd (by omega) h) (fun _ h => absurd (by omega) h) (fun _ h => absurd (by omega) h) (fun h => absurd (by omega) h)) rfl ho (fun j hj => by cases hj)
      exact ⟨fun h => go _ (ih.1 h), fun h => go _ (ih.2 h)⟩
    · rw [if_neg c1]
      cases hp : pairAt l i j with
      | true =>
        rw [Bool.true_or]
        refine ⟨fun _ => .last (round _ (fun _ h g => absurd ⟨by omega, by omega⟩ c1) (fun _ _ _ _ => out_eq) (fun _ _ _ h => absurd hp h) (fun _ _ _ => out_eq) (fun _ _ h => absurd hp h) (fun h => absurd (by omega) h)) (by intro h; cases h), fun h => by cases h⟩
      | false =>
        rw [Bool.false_or]
        have hq : ¬ (pairAt l i j = true) := by rw [hp]; exact Bool.false_ne_true
        have go : ∀ o, LoopSpec Try.prog 1 tang_inner (frTI l.length c i ((j + 1 : Nat) : Int)) [.ro 39 (pc l)] o → LoopSpec Try.prog 1 tang_inner (frTI l.length c i j) [.ro 39 (pc l)] o := fun o ho =>
          .more (o1 := ⟨.normal, frTI l.length c i ((j + 1 : Nat) : Int), [.ro 39 (pc l)], []⟩) (round _ (fun _ _ _ => out_eq) (fun _ _ _ h => absurd h hq) (fun _ _ _ _ => out_eq) (fun _ _ h => absurd h hq) (fun _ _ _ => out_eq) (fun h => absurd (by omega) h)) rfl ho (fun j hj => by cases hj)
        exact ⟨fun h => go _ (ih.1 h), fun h => go _ (ih.2 h)⟩
theorem outer_rounds {l : List S23} {c : Nat} (h3 : 3 ≤ l.length) (hn : l.length ≤ 64) : ∀ (m i : Nat), i + m = l.length →
    (outer l m = true → LoopSpec Try.prog 1 tang_outer (frTO l.length c i) [.ro 39 (pc l)] ⟨.ret, frOf 68 [(2, .bool true)], [.ro 39 (pc l)], []⟩) ∧
    (outer l m = false → LoopSpec Try.prog 1 tang_outer (frTO l.length c i) [.ro 39 (pc l)] ⟨.exit 0, frTO l.length c l.length, [.ro 39 (pc l)], []⟩)
  | 0, i, hm => by
    refine ⟨fun h => (by cases h), fun _ => ?_⟩
    obtain rfl : i = l.length := by omega
    have e := (inner_rounds (c := c) (i := l.length - 1) (by omega) hn 0 (l.length + 1) (by omega) (by omega) (by omega)).2 rfl
    exact .last (CodeSpec.le (tang_outEnd l.length c (pc l) hn (pc_len l) _ out_eq) out_eq) (by intro h; cases h)
  | m + 1, i, hm => by
    have ih := outer_rounds (c := c) h3 hn m (i + 1) (by omega)
    have ei : l.length - (m + 1) = i := by omega
    have inn := inner_rounds (c := c) (i := i) (by omega) hn (m - 1) (i + 2) (by omega) (by omega) (by omega)
    have sp : spikeV (pt l i).f0 (pt l i).f1 (nx l (i + 1)).f0 (nx l (i + 1)).f1 (nx l (i + 2)).f0 (nx l (i + 2)).f1 = spikeAt l i := rfl
    rw [outer, ei]
    cases hI : inner l i (m - 1) with
    | true =>
      have round := tang_outT l.length c (pc l) i _ _ _ _ _ _ (by omega) hn (pc_len l) (mod_in _ (by omega)) (mod_in _ (by omega)) (fun _ => ptAt_of (by omega)) (fun _ => nx_of (i := i + 1) (by omega) _ rfl) (fun _ => nx_of (i := i + 2) (by omega) _ rfl) (inn.1 hI).code
      rw [sp] at round
      refine ⟨fun _ => .last (round _ (fun _ _ => out_eq) (fun _ _ => out_eq) (fun h => absurd (by omega) h)) (by intro h; cases h), fun h => by simp at h⟩
    | false =>
      have round := tang_outF l.length c (pc l) i _ _ _ _ _ _ _ (by omega) hn (pc_len l) (mod_in _ (by omega)) (mod_in _ (by omega)) (fun _ => ptAt_of (by omega)) (fun _ => nx_of (i := i + 1) (by omega) _ rfl) (fun _ => nx_of (i := i + 2) (by omega) _ rfl) (inn.2 hI).code
      rw [sp] at round
      rw [Bool.false_or]
      cases hs : spikeAt l i with
      | true => exact ⟨fun _ => .last (round _ (fun _ _ => out_eq) (fun _ h => absurd hs h) (fun h => absurd (by omega) h)) (by intro h; cases h), fun h => by simp at h⟩
      | false =>
        have hq : ¬ (spikeAt l i = true) := by rw [hs]; exact Bool.false_ne_true
        rw [Bool.false_or]
        have go : ∀ o, LoopSpec Try.prog 1 tang_outer (frTO l.length c ((i + 1 : Nat) : Int)) [.ro 39 (pc l)] o → LoopSpec Try.prog 1 tang_outer (frTO l.length c i) [.ro 39 (pc l)] o := fun o ho =>
          .more (o1 := ⟨.normal, frTO l.length c ((i + 1 : Nat) : Int), [.ro 39 (pc l)], []⟩) (round _ (fun _ h => absurd h hq) (fun _ _ => out_eq) (fun h => absurd (by omega) h)) rfl ho (fun j hj => by cases hj)
        exact ⟨fun h => go _ (ih.1 h), fun h => go _ (ih.2 h)⟩
theorem tangled_done {l : List S23} {c : Nat} (h3 : 3 ≤ l.length) (hn : l.length ≤ 64) : CallSpec Try.prog 75 [.slice (some ⟨0, 0, none⟩) l.length c] [.ro 39 (pc l)] ⟨.bool (tangledV l), [.ro 39 (pc l)], []⟩ := by
  have h := outer_rounds (c := c) h3 hn l.length 0 (by omega)
  unfold tangledV
  cases ht : outer l l.length with
  | true => exact tang_okT _ _ _ (h.1 ht).code _ ⟨rfl, rfl, fun j hj => hj⟩
  | false => exact tang_okF _ _ _ (h.2 ht).code _ ⟨rfl, rfl, fun j hj => hj⟩
end Go.Proofs.Ytjalkjeldlchoaa.Ex
end
section
set_option linter.unusedSectionVars false
set_option linter.unusedSimpArgs false
set_option linter.unusedVariables false
namespace Go.Proofs.Ytjalkjeldlchoaa.Ex
open Go
set_option linter.unusedVariables false
abbrev slB (b n c : Nat) : Value := .slice (some ⟨b, 0, none⟩) n c
abbrev fV (P : Value) (fl ce : Int) (R : Value) : Value := .agg #[P, .int .i64 fl, .int .i64 ce, R]
noncomputable def chk_l : Code := loopAt Try.prog 18 0
theorem chk_l_calm : calmC chk_l = true := loopAt_calm tcalm 18 0
noncomputable def chk_lC : Code := .loop chk_l
def frC (m d : Nat) (i : Int) : Fr := frOf 40 [(1, at_ 2 0), (21, slB 1 m d), (22, .int .i64 m), (23, .int .i64 i)]
def frCR (v : Int) : Fr := frOf 40 [(2, .int .i64 v)]
def keepC : Xt → List Nat
  | .ret => [2]
  | _ => [1, 21, 22, 23]
def hpC (n c m d : Nat) (cs rs : List Value) (fl ce : Int) : Hp := [.ro 39 cs, .ro 39 rs, .own 24 [slB 0 n c, .int .i64 fl, .int .i64 ce, slB 1 m d]]
section
variable (n c : Nat) (cs : List Value) (fl ce : Int)
include n c cs fl ce
theorem lim_bn_pt : go (exec (Try.prog) (8) (47) ([fV (slB 0 n c) fl ce (sN)]) ([.ro 39 cs])) [(20, .call (.mk (.bool (X.inQ fl && X.inQ ce)) [.own 3 [.int .i64 fl, .int .i64 ce]] [])), (5, .dec true)] = some (.mk (.int .i64 5) [.ro 39 cs] [], true, [CallSpec Try.prog 55 [(sB 0 2 2)] [.own 3 [.int .i64 fl, .int .i64 ce]] (.mk (.bool (X.inQ fl && X.inQ ce)) [.own 3 [.int .i64 fl, .int .i64 ce]] []), (!(X.inQ fl && X.inQ ce)) = true]) := by kernel_rfl
theorem lim_bn_pft : go (exec (Try.prog) (8) (47) ([fV (slB 0 n c) fl ce (sN)]) ([.ro 39 cs])) [(20, .call (.mk (.bool (X.inQ fl && X.inQ ce)) [.own 3 [.int .i64 fl, .int .i64 ce]] [])), (5, .dec false), (7, .dec true), (0, .dec true)] = some (.mk (.int .i64 100) [.ro 39 cs] [], true, [CallSpec Try.prog 55 [(sB 0 2 2)] [.own 3 [.int .i64 fl, .int .i64 ce]] (.mk (.bool (X.inQ fl && X.inQ ce)) [.own 3 [.int .i64 fl, .int .i64 ce]] []), (!(X.inQ fl && X.inQ ce)) = false, decide (fl > 0) = true, decide (fl > 0) = true]) := by kernel_rfl
theorem lim_bn_pfft : go (exec (Try.prog) (8) (47) ([fV (slB 0 n c) fl ce (sN)]) ([.ro 39 cs])) [(20, .call (.mk (.bool (X.inQ fl && X.inQ ce)) [.own 3 [.int .i64 fl, .int .i64 ce]] [])), (5, .dec false), (7, .dec false), (7, .dec true)] = some (.mk (.int .i64 100) [.ro 39 cs] [], true, [CallSpec Try.prog 55 [(sB 0 2 2)] [.own 3 [.int .i64 fl, .int .i64 ce]] (.mk (.bool (X.inQ fl && X.inQ ce)) [.own 3 [.int .i64 fl, .int .i64 ce]] []), (!(X.inQ fl && X.inQ ce)) = false, decide (fl > 0) = false, decide (ce ≤ 0) = true]) := by kernel_rfl
theorem lim_bn_pfff : go (exec (Try.prog) (8) (47) ([fV (slB 0 n c) fl ce (sN)]) ([.ro 39 cs])) [(20, .call (.mk (.bool (X.inQ fl && X.inQ ce)) [.own 3 [.int .i64 fl, .int .i64 ce]] [])), (5, .dec false), (7, .dec false), (7, .dec false)] = some (.mk (.int .i64 0) [.ro 39 cs] [], true, [CallSpec Try.prog 55 [(sB 0 2 2)] [.own 3 [.int .i64 fl, .int .i64 ce]] (.mk (.bool (X.inQ fl && X.inQ ce)) [.own 3 [.int .i64 fl, .int .i64 ce]] []), (!(X.inQ fl && X.inQ ce)) = false, decide (fl > 0) = false, decide (ce ≤ 0) = false]) := by kernel_rfl
theorem lim_bn (R : Res) (k_pt : (h0 : (!(X.inQ fl && X.inQ ce)) = true) → Res.le (.mk (.int .i64 5) [.ro 39 cs] []) R) (k_pft : (h0 : ¬ ((!(X.inQ fl && X.inQ ce)) = true)) → (h1 : fl > 0) → Res.le (.mk (.int .i64 100) [.ro 39 cs] []) R) (k_pfft : (h0 : ¬ ((!(X.inQ fl && X.inQ ce)) = true)) → (h1 : ¬ (fl > 0)) → (h2 : ce ≤ 0) → Res.le (.mk (.int .i64 100) [.ro 39 cs] []) R) (k_pfff : (h0 : ¬ ((!(X.inQ fl && X.inQ ce)) = true)) → (h1 : ¬ (fl > 0)) → (h2 : ¬ (ce ≤ 0)) → Res.le (.mk (.int .i64 0) [.ro 39 cs] []) R) : CallSpec (Try.prog) (47) ([fV (slB 0 n c) fl ce (sN)]) ([.ro 39 cs]) R := by
  by_cases h0 : (!(X.inQ fl && X.inQ ce)) = true
  · exact (CallSpec.id (go_ok (exec_ok tnamed tcalm tmixed _ _ _ _) (lim_bn_pt n c cs fl ce ) (aC ((may2_done _ _)) (aC (h0) aN)))).le (k_pt h0)
  · by_cases h1 : fl > 0
    · exact (CallSpec.id (go_ok (exec_ok tnamed tcalm tmixed _ _ _ _) (lim_bn_pft n c cs fl ce ) (aC ((may2_done _ _)) (aC ((bF h0)) (aC (dTq h1) (aC (dTq h1) aN)))))).le (k_pft h0 h1)
    · by_cases h2 : ce ≤ 0
      · exact (CallSpec.id (go_ok (exec_ok tnamed tcalm tmixed _ _ _ _) (lim_bn_pfft n c cs fl ce ) (aC ((may2_done _ _)) (aC ((bF h0)) (aC (dFq h1) (aC (dTq h2) aN)))))).le (k_pfft h0 h1 h2)
      · exact (CallSpec.id (go_ok (exec_ok tnamed tcalm tmixed _ _ _ _) (lim_bn_pfff n c cs fl ce ) (aC ((may2_done _ _)) (aC ((bF h0)) (aC (dFq h1) (aC (dFq h2) aN)))))).le (k_pfff h0 h1 h2)
end
section
variable (n c m d : Nat) (cs rs : List Value) (fl ce : Int)
include n c m d cs rs fl ce
theorem lim_bb_pt : go (exec (Try.prog) (8) (47) ([fV (slB 0 n c) fl ce (slB 1 m d)]) ([.ro 39 cs, .ro 39 rs])) [(20, .call (.mk (.bool (X.inQ fl && X.inQ ce)) [.own 3 [.int .i64 fl, .int .i64 ce]] [])), (5, .dec true)] = some (.mk (.int .i64 5) [.ro 39 cs, .ro 39 rs] [], true, [CallSpec Try.prog 55 [(sB 0 2 2)] [.own 3 [.int .i64 fl, .int .i64 ce]] (.mk (.bool (X.inQ fl && X.inQ ce)) [.own 3 [.int .i64 fl, .int .i64 ce]] []), (!(X.inQ fl && X.inQ ce)) = true]) := by kernel_rfl
theorem lim_bb_pft : go (exec (Try.prog) (8) (47) ([fV (slB 0 n c) fl ce (slB 1 m d)]) ([.ro 39 cs, .ro 39 rs])) [(20, .call (.mk (.bool (X.inQ fl && X.inQ ce)) [.own 3 [.int .i64 fl, .int .i64 ce]] [])), (5, .dec false), (7, .dec true), (0, .dec true)] = some (.mk (.int .i64 100) [.ro 39 cs, .ro 39 rs] [], true, [CallSpec Try.prog 55 [(sB 0 2 2)] [.own 3 [.int .i64 fl, .int .i64 ce]] (.mk (.bool (X.inQ fl && X.inQ ce)) [.own 3 [.int .i64 fl, .int .i64 ce]] []), (!(X.inQ fl && X.inQ ce)) = false, decide (fl > 0) = true, decide (fl > 0) = true]) := by kernel_rfl
theorem lim_bb_pfft : go (exec (Try.prog) (8) (47) ([fV (slB 0 n c) fl ce (slB 1 m d)]) ([.ro 39 cs, .ro 39 rs])) [(20, .call (.mk (.bool (X.inQ fl && X.inQ ce)) [.own 3 [.int .i64 fl, .int .i64 ce]] [])), (5, .dec false), (7, .dec false), (7, .dec true)] = some (.mk (.int .i64 100) [.ro 39 cs, .ro 39 rs] [], true, [CallSpec Try.prog 55 [(sB 0 2 2)] [.own 3 [.int .i64 fl, .int .i64 ce]] (.mk (.bool (X.inQ fl && X.inQ ce)) [.own 3 [.int .i64 fl, .int .i64 ce]] []), (!(X.inQ fl && X.inQ ce)) = false, decide (fl > 0) = false, decide (ce ≤ 0) = true]) := by kernel_rfl
theorem lim_bb_pffft : go (exec (Try.prog) (8) (47) ([fV (slB 0 n c) fl ce (slB 1 m d)]) ([.ro 39 cs, .ro 39 rs])) [(20, .call (.mk (.bool (X.inQ fl && X.inQ ce)) [.own 3 [.int .i64 fl, .int .i64 ce]] [])), (5, .dec false), (7, .dec false), (7, .dec false), (7, .dec true)] = some (.mk (.int .i64 4) [.ro 39 cs, .ro 39 rs] [], true, [CallSpec Try.prog 55 [(sB 0 2 2)] [.own 3 [.int .i64 fl, .int .i64 ce]] (.mk (.bool (X.inQ fl && X.inQ ce)) [.own 3 [.int .i64 fl, .int .i64 ce]] []), (!(X.inQ fl && X.inQ ce)) = false, decide (fl > 0) = false, decide (ce ≤ 0) = false, decide ((↑m : Int) > 8) = true]) := by kernel_rfl
theorem lim_bb_pffff : go (exec (Try.prog) (8) (47) ([fV (slB 0 n c) fl ce (slB 1 m d)]) ([.ro 39 cs, .ro 39 rs])) [(20, .call (.mk (.bool (X.inQ fl && X.inQ ce)) [.own 3 [.int .i64 fl, .int .i64 ce]] [])), (5, .dec false), (7, .dec false), (7, .dec false), (7, .dec false)] = some (.mk (.int .i64 0) [.ro 39 cs, .ro 39 rs] [], true, [CallSpec Try.prog 55 [(sB 0 2 2)] [.own 3 [.int .i64 fl, .int .i64 ce]] (.mk (.bool (X.inQ fl && X.inQ ce)) [.own 3 [.int .i64 fl, .int .i64 ce]] []), (!(X.inQ fl && X.inQ ce)) = false, decide (fl > 0) = false, decide (ce ≤ 0) = false, decide ((↑m : Int) > 8) = false]) := by kernel_rfl
theorem lim_bb (R : Res) (k_pt : (h0 : (!(X.inQ fl && X.inQ ce)) = true) → Res.le (.mk (.int .i64 5) [.ro 39 cs, .ro 39 rs] []) R) (k_pft : (h0 : ¬ ((!(X.inQ fl && X.inQ ce)) = true)) → (h1 : fl > 0) → Res.le (.mk (.int .i64 100) [.ro 39 cs, .ro 39 rs] []) R) (k_pfft : (h0 : ¬ ((!(X.inQ fl && X.inQ ce)) = true)) → (h1 : ¬ (fl > 0)) → (h2 : ce ≤ 0) → Res.le (.mk (.int .i64 100) [.ro 39 cs, .ro 39 rs] []) R) (k_pffft : (h0 : ¬ ((!(X.inQ fl && X.inQ ce)) = true)) → (h1 : ¬ (fl > 0)) → (h2 : ¬ (ce ≤ 0)) → (h3 : (↑m : Int) > 8) → Res.le (.mk (.int .i64 4) [.ro 39 cs, .ro 39 rs] []) R) (k_pffff : (h0 : ¬ ((!(X.inQ fl && X.inQ ce)) = true)) → (h1 : ¬ (fl > 0)) → (h2 : ¬ (ce ≤ 0)) → (h3 : ¬ ((↑m : Int) > 8)) → Res.le (.mk (.int .i64 0) [.ro 39 cs, .ro 39 rs] []) R) : CallSpec (Try.prog) (47) ([fV (slB 0 n c) fl ce (slB 1 m d)]) ([.ro 39 cs, .ro 39 rs]) R := by
  by_cases h0 : (!(X.inQ fl && X.inQ ce)) = true
  · exact (CallSpec.id (go_ok (exec_ok tnamed tcalm tmixed _ _ _ _) (lim_bb_pt n c m d cs rs fl ce ) (aC ((may2_done _ _)) (aC (h0) aN)))).le (k_pt h0)
  · by_cases h1 : fl > 0
    · exact (CallSpec.id (go_ok (exec_ok tnamed tcalm tmixed _ _ _ _) (lim_bb_pft n c m d cs rs fl ce ) (aC ((may2_done _ _)) (aC ((bF h0)) (aC (dTq h1) (aC (dTq h1) aN)))))).le (k_pft h0 h1)
    · by_cases h2 : ce ≤ 0
      · exact (CallSpec.id (go_ok (exec_ok tnamed tcalm tmixed _ _ _ _) (lim_bb_pfft n c m d cs rs fl ce ) (aC ((may2_done _ _)) (aC ((bF h0)) (aC (dFq h1) (aC (dTq h2) aN)))))).le (k_pfft h0 h1 h2)
      · by_cases h3 : (↑m : Int) > 8
        · exact (CallSpec.id (go_ok (exec_ok tnamed tcalm tmixed _ _ _ _) (lim_bb_pffft n c m d cs rs fl ce ) (aC ((may2_done _ _)) (aC ((bF h0)) (aC (dFq h1) (aC (dFq h2) (aC (dTq h3) aN))))))).le (k_pffft h0 h1 h2 h3)
        · exact (CallSpec.id (go_ok (exec_ok tnamed tcalm tmixed _ _ _ _) (lim_bb_pffff n c m d cs rs fl ce ) (aC ((may2_done _ _)) (aC ((bF h0)) (aC (dFq h1) (aC (dFq h2) (aC (dFq h3) aN))))))).le (k_pffff h0 h1 h2 h3)
end
section
variable (n c m d : Nat) (cs rs : List Value) (fl ce i x y sA sE : Int) (hi : 0 ≤ i ∧ i ≤ (↑m : Int)) (hm : m ≤ 8) (hl : List.length rs = m * 2) (hA : i < (↑m : Int) → ptAt rs i x y) (kS : i < (↑m : Int) → CallSpec Try.prog 34 [slB 0 n c, (a2 x y)] [.ro 39 cs] (.mk (.tuple #[.int .i64 sA, .int .i64 sE]) [.ro 39 cs] []))
include n c m d cs rs fl ce i x y sA sE hi hm hl hA kS
theorem chk_round_ptt : go (body (Try.prog) (8) (2) (8) (keepC) (chk_l) (frC m d i) (hpC n c m d cs rs fl ce)) [(2, .dec true), (0, Itm.must), (1, Itm.must), (0, Itm.val ((a2 x y))), (13, .call (.mk (.tuple #[.int .i64 sA, .int .i64 sE]) [.ro 39 cs] [])), (11, .dec true)] = some (Out.mk Xt.ret (frOf 40 [(2, .int .i64 sE)]) [.ro 39 cs, .ro 39 rs] [], true, [decide (i < (↑m : Int)) = true, inside i m = true, decide (0 + Int.toNat i * 2 + 2 ≤ List.length rs) = true, Value.agg (List.toArray (List.take 2 (List.drop (0 + Int.toNat i * 2) rs))) = (a2 x y), CallSpec Try.prog 34 [(sB 0 n c), (a2 x y)] [.ro 39 cs] (.mk (.tuple #[.int .i64 sA, .int .i64 sE]) [.ro 39 cs] []), (!decide (sE = 0)) = true]) := by kernel_rfl
theorem chk_round_ptft : go (body (Try.prog) (8) (2) (8) (keepC) (chk_l) (frC m d i) (hpC n c m d cs rs fl ce)) [(2, .dec true), (0, Itm.must), (1, Itm.must), (0, Itm.val ((a2 x y))), (13, .call (.mk (.tuple #[.int .i64 sA, .int .i64 sE]) [.ro 39 cs] [])), (11, .dec false), (3, .dec true)] = some (Out.mk Xt.ret (frOf 40 [(2, .int .i64 101)]) [.ro 39 cs, .ro 39 rs] [], true, [decide (i < (↑m : Int)) = true, inside i m = true, decide (0 + Int.toNat i * 2 + 2 ≤ List.length rs) = true, Value.agg (List.toArray (List.take 2 (List.drop (0 + Int.toNat i * 2) rs))) = (a2 x y), CallSpec Try.prog 34 [(sB 0 n c), (a2 x y)] [.ro 39 cs] (.mk (.tuple #[.int .i64 sA, .int .i64 sE]) [.ro 39 cs] []), (!decide (sE = 0)) = false, (!decide (sA = 1)) = true]) := by kernel_rfl
theorem chk_round_ptff : go (body (Try.prog) (8) (2) (8) (keepC) (chk_l) (frC m d i) (hpC n c m d cs rs fl ce)) [(2, .dec true), (0, Itm.must), (1, Itm.must), (0, Itm.val ((a2 x y))), (13, .call (.mk (.tuple #[.int .i64 sA, .int .i64 sE]) [.ro 39 cs] [])), (11, .dec false), (3, .dec false), (0, Itm.val (.int .i64 (i + 1)))] = some (Out.mk Xt.normal (frOf 40 [(1, (pA 2)), (21, (sB 1 m d)), (22, .int .i64 (↑m : Int)), (23, .int .i64 (i + 1))]) [.ro 39 cs, .ro 39 rs, .own 24 [(sB 0 n c), .int .i64 fl, .int .i64 ce, (sB 1 m d)]] [], true, [decide (i < (↑m : Int)) = true, inside i m = true, decide (0 + Int.toNat i * 2 + 2 ≤ List.length rs) = true, Value.agg (List.toArray (List.take 2 (List.drop (0 + Int.toNat i * 2) rs))) = (a2 x y), CallSpec Try.prog 34 [(sB 0 n c), (a2 x y)] [.ro 39 cs] (.mk (.tuple #[.int .i64 sA, .int .i64 sE]) [.ro 39 cs] []), (!decide (sE = 0)) = false, (!decide (sA = 1)) = false, Value.int .i64 (IntKind.wrap .i64 (i + 1)) = .int .i64 (i + 1)]) := by kernel_rfl
theorem chk_round_pf : go (body (Try.prog) (8) (2) (8) (keepC) (chk_l) (frC m d i) (hpC n c m d cs rs fl ce)) [(2, .dec false)] = some (Out.mk (Xt.exit 0) (frOf 40 [(1, (pA 2)), (21, (sB 1 m d)), (22, .int .i64 (↑m : Int)), (23, .int .i64 i)]) [.ro 39 cs, .ro 39 rs, .own 24 [(sB 0 n c), .int .i64 fl, .int .i64 ce, (sB 1 m d)]] [], true, [decide (i < (↑m : Int)) = false]) := by kernel_rfl
theorem chk_round (R : Out) (k_ptt : (h0 : i < (↑m : Int)) → (h1 : ¬sE = 0) → Out.le (Out.mk Xt.ret (frOf 40 [(2, .int .i64 sE)]) [.ro 39 cs, .ro 39 rs] []) R) (k_ptft : (h0 : i < (↑m : Int)) → (h1 : ¬ (¬sE = 0)) → (h2 : ¬sA = 1) → Out.le (Out.mk Xt.ret (frOf 40 [(2, .int .i64 101)]) [.ro 39 cs, .ro 39 rs] []) R) (k_ptff : (h0 : i < (↑m : Int)) → (h1 : ¬ (¬sE = 0)) → (h2 : ¬ (¬sA = 1)) → Out.le (Out.mk Xt.normal (frOf 40 [(1, (pA 2)), (21, (sB 1 m d)), (22, .int .i64 (↑m : Int)), (23, .int .i64 (i + 1))]) [.ro 39 cs, .ro 39 rs, .own 24 [(sB 0 n c), .int .i64 fl, .int .i64 ce, (sB 1 m d)]] []) R) (k_pf : (h0 : ¬ (i < (↑m : Int))) → Out.le (Out.mk (Xt.exit 0) (frOf 40 [(1, (pA 2)), (21, (sB 1 m d)), (22, .int .i64 (↑m : Int)), (23, .int .i64 i)]) [.ro 39 cs, .ro 39 rs, .own 24 [(sB 0 n c), .int .i64 fl, .int .i64 ce, (sB 1 m d)]] []) R) : CodeSpec (Try.prog) (2) (chk_l) (frC m d i) (hpC n c m d cs rs fl ce) R := by
  by_cases h0 : i < (↑m : Int)
  · by_cases h1 : ¬sE = 0
    · exact (CodeSpec.id (go_ok (body_ok tnamed tcalm tmixed _ _ _ _ _ _ chk_l_calm) (chk_round_ptt n c m d cs rs fl ce i x y sA sE hi hm hl hA kS ) (aC (dTq h0) (aC (inside_of (by omega)) (aC dO (aC ((hA (by omega))) (aC ((kS (by omega))) (aC ((by simpa using h1)) aN)))))))).le (k_ptt h0 h1)
    · by_cases h2 : ¬sA = 1
      · exact (CodeSpec.id (go_ok (body_ok tnamed tcalm tmixed _ _ _ _ _ _ chk_l_calm) (chk_round_ptft n c m d cs rs fl ce i x y sA sE hi hm hl hA kS ) (aC (dTq h0) (aC (inside_of (by omega)) (aC dO (aC ((hA (by omega))) (aC ((kS (by omega))) (aC ((by simpa using h1)) (aC ((by simpa using h2)) aN))))))))).le (k_ptft h0 h1 h2)
      · exact (CodeSpec.id (go_ok (body_ok tnamed tcalm tmixed _ _ _ _ _ _ chk_l_calm) (chk_round_ptff n c m d cs rs fl ce i x y sA sE hi hm hl hA kS ) (aC (dTq h0) (aC (inside_of (by omega)) (aC dO (aC ((hA (by omega))) (aC ((kS (by omega))) (aC ((by simpa using h1)) (aC ((by simpa using h2)) (aC (congrArg (Value.int _) (Go.IntWalk.i64_in _ (by omega))) aN)))))))))).le (k_ptff h0 h1 h2)
  · exact (CodeSpec.id (go_ok (body_ok tnamed tcalm tmixed _ _ _ _ _ _ chk_l_calm) (chk_round_pf n c m d cs rs fl ce i x y sA sE hi hm hl hA kS ) (aC (dFq h0) aN))).le (k_pf h0)
end
section
variable (n c m d : Nat) (cs rs : List Value) (fl ce e : Int) (he : e ≠ 0) (kE : CallSpec Try.prog 46 [slB 0 n c] [.ro 39 cs] (.mk (.int .i64 e) [.ro 39 cs] []))
include n c m d cs rs fl ce e he kE
theorem chk_e_p : go (exec (Try.prog) (8) (18) ([fV (slB 0 n c) fl ce (slB 1 m d)]) ([.ro 39 cs, .ro 39 rs])) [(9, .call (.mk (.int .i64 e) [.ro 39 cs] [])), (7, .dec true)] = some (.mk (.int .i64 e) [.ro 39 cs, .ro 39 rs] [], true, [type_of% kE, (!decide (e = 0)) = true]) := by kernel_rfl
theorem chk_e (R : Res) (k_p : Res.le (.mk (.int .i64 e) [.ro 39 cs, .ro 39 rs] []) R) : CallSpec (Try.prog) (18) ([fV (slB 0 n c) fl ce (slB 1 m d)]) ([.ro 39 cs, .ro 39 rs]) R := by
  exact (CallSpec.id (go_ok (exec_ok tnamed tcalm tmixed _ _ _ _) (chk_e_p n c m d cs rs fl ce e he kE ) (aC (kE) (aC (congrArg not dN) aN)))).le (k_p )
end
section
variable (n c m d : Nat) (cs rs : List Value) (fl ce e : Int) (he : e ≠ 0) (kE : CallSpec Try.prog 46 [slB 0 n c] [.ro 39 cs] (.mk (.int .i64 0) [.ro 39 cs] [])) (kL : CallSpec Try.prog 47 [fV (slB 0 n c) fl ce (slB 1 m d)] [.ro 39 cs, .ro 39 rs] (.mk (.int .i64 e) [.ro 39 cs, .ro 39 rs] []))
include n c m d cs rs fl ce e he kE kL
theorem chk_l1_p : go (exec (Try.prog) (8) (18) ([fV (slB 0 n c) fl ce (slB 1 m d)]) ([.ro 39 cs, .ro 39 rs])) [(9, .call (.mk (.int .i64 0) [.ro 39 cs] [])), (10, .call (.mk (.int .i64 e) [.ro 39 cs, .ro 39 rs] [])), (7, .dec true)] = some (.mk (.int .i64 e) [.ro 39 cs, .ro 39 rs] [], true, [type_of% kE, type_of% kL, (!decide (e = 0)) = true]) := by kernel_rfl
theorem chk_l1 (R : Res) (k_p : Res.le (.mk (.int .i64 e) [.ro 39 cs, .ro 39 rs] []) R) : CallSpec (Try.prog) (18) ([fV (slB 0 n c) fl ce (slB 1 m d)]) ([.ro 39 cs, .ro 39 rs]) R := by
  exact (CallSpec.id (go_ok (exec_ok tnamed tcalm tmixed _ _ _ _) (chk_l1_p n c m d cs rs fl ce e he kE kL ) (aC (kE) (aC (kL) (aC (congrArg not dN) aN))))).le (k_p )
end
section
variable (n c m d : Nat) (cs rs : List Value) (fl ce v : Int) (kE : CallSpec Try.prog 46 [slB 0 n c] [.ro 39 cs] (.mk (.int .i64 0) [.ro 39 cs] [])) (kL : CallSpec Try.prog 47 [fV (slB 0 n c) fl ce (slB 1 m d)] [.ro 39 cs, .ro 39 rs] (.mk (.int .i64 0) [.ro 39 cs, .ro 39 rs] [])) (hL : CodeSpec Try.prog 2 chk_lC (frC m d 0) (hpC n c m d cs rs fl ce) (Out.mk Xt.ret (frCR v) [.ro 39 cs, .ro 39 rs] []))
include n c m d cs rs fl ce v kE kL hL
theorem chk_T_p : go (exec (Try.prog) (8) (18) ([fV (slB 0 n c) fl ce (slB 1 m d)]) ([.ro 39 cs, .ro 39 rs])) [(9, .call (.mk (.int .i64 0) [.ro 39 cs] [])), (10, .call (.mk (.int .i64 0) [.ro 39 cs, .ro 39 rs] [])), (14, Itm.loop [1, 21, 22, 23] (Out.mk Xt.ret (frOf 40 [(2, .int .i64 v)]) [.ro 39 cs, .ro 39 rs] []))] = some (.mk (.int .i64 v) [.ro 39 cs, .ro 39 rs] [], true, [type_of% kE, type_of% kL, type_of% hL]) := by kernel_rfl
theorem chk_T (R : Res) (k_p : Res.le (.mk (.int .i64 v) [.ro 39 cs, .ro 39 rs] []) R) : CallSpec (Try.prog) (18) ([fV (slB 0 n c) fl ce (slB 1 m d)]) ([.ro 39 cs, .ro 39 rs]) R := by
  exact (CallSpec.id (go_ok (exec_ok tnamed tcalm tmixed _ _ _ _) (chk_T_p n c m d cs rs fl ce v kE kL hL ) (aC (kE) (aC (kL) (aC (hL) aN))))).le (k_p )
end
section
variable (n c m d : Nat) (cs rs : List Value) (fl ce : Int) (kE : CallSpec Try.prog 46 [slB 0 n c] [.ro 39 cs] (.mk (.int .i64 0) [.ro 39 cs] [])) (kL : CallSpec Try.prog 47 [fV (slB 0 n c) fl ce (slB 1 m d)] [.ro 39 cs, .ro 39 rs] (.mk (.int .i64 0) [.ro 39 cs, .ro 39 rs] [])) (hL : CodeSpec Try.prog 2 chk_lC (frC m d 0) (hpC n c m d cs rs fl ce) (Out.mk (Xt.exit 0) (frC m d (↑m : Int)) (hpC n c m d cs rs fl ce) []))
include n c m d cs rs fl ce kE kL hL
theorem chk_F_p : go (exec (Try.prog) (8) (18) ([fV (slB 0 n c) fl ce (slB 1 m d)]) ([.ro 39 cs, .ro 39 rs])) [(9, .call (.mk (.int .i64 0) [.ro 39 cs] [])), (10, .call (.mk (.int .i64 0) [.ro 39 cs, .ro 39 rs] [])), (14, Itm.loop [1, 21, 22, 23] (Out.mk (Xt.exit 0) (frOf 40 [(1, (pA 2)), (21, (sB 1 m d)), (22, .int .i64 (↑m : Int)), (23, .int .i64 (↑m : Int))]) [.ro 39 cs, .ro 39 rs, .own 24 [(sB 0 n c), .int .i64 fl, .int .i64 ce, (sB 1 m d)]] []))] = some (.mk (.int .i64 0) [.ro 39 cs, .ro 39 rs] [], true, [type_of% kE, type_of% kL, type_of% hL]) := by kernel_rfl
theorem chk_F (R : Res) (k_p : Res.le (.mk (.int .i64 0) [.ro 39 cs, .ro 39 rs] []) R) : CallSpec (Try.prog) (18) ([fV (slB 0 n c) fl ce (slB 1 m d)]) ([.ro 39 cs, .ro 39 rs]) R := by
  exact (CallSpec.id (go_ok (exec_ok tnamed tcalm tmixed _ _ _ _) (chk_F_p n c m d cs rs fl ce kE kL hL ) (aC (kE) (aC (kL) (aC (hL) aN))))).le (k_p )
end
section
variable (n c : Nat) (cs : List Value) (fl ce e : Int) (he : e ≠ 0) (kE : CallSpec Try.prog 46 [slB 0 n c] [.ro 39 cs] (.mk (.int .i64 e) [.ro 39 cs] []))
include n c cs fl ce e he kE
theorem chkn_e_p : go (exec (Try.prog) (8) (18) ([fV (slB 0 n c) fl ce (sN)]) ([.ro 39 cs])) [(9, .call (.mk (.int .i64 e) [.ro 39 cs] [])), (7, .dec true)] = some (.mk (.int .i64 e) [.ro 39 cs] [], true, [type_of% kE, (!decide (e = 0)) = true]) := by kernel_rfl
theorem chkn_e (R : Res) (k_p : Res.le (.mk (.int .i64 e) [.ro 39 cs] []) R) : CallSpec (Try.prog) (18) ([fV (slB 0 n c) fl ce (sN)]) ([.ro 39 cs]) R := by
  exact (CallSpec.id (go_ok (exec_ok tnamed tcalm tmixed _ _ _ _) (chkn_e_p n c cs fl ce e he kE ) (aC (kE) (aC (congrArg not dN) aN)))).le (k_p )
end
section
variable (n c : Nat) (cs : List Value) (fl ce e : Int) (kE : CallSpec Try.prog 46 [slB 0 n c] [.ro 39 cs] (.mk (.int .i64 0) [.ro 39 cs] [])) (kL : CallSpec Try.prog 47 [fV (slB 0 n c) fl ce (sN)] [.ro 39 cs] (.mk (.int .i64 e) [.ro 39 cs] []))
include n c cs fl ce e kE kL
theorem chkn_l_pt : go (exec (Try.prog) (8) (18) ([fV (slB 0 n c) fl ce (sN)]) ([.ro 39 cs])) [(9, .call (.mk (.int .i64 0) [.ro 39 cs] [])), (10, .call (.mk (.int .i64 e) [.ro 39 cs] [])), (7, .dec true)] = some (.mk (.int .i64 e) [.ro 39 cs] [], true, [type_of% kE, type_of% kL, (!decide (e = 0)) = true]) := by kernel_rfl
theorem chkn_l_pf : go (exec (Try.prog) (8) (18) ([fV (slB 0 n c) fl ce (sN)]) ([.ro 39 cs])) [(9, .call (.mk (.int .i64 0) [.ro 39 cs] [])), (10, .call (.mk (.int .i64 e) [.ro 39 cs] [])), (7, .dec false)] = some (.mk (.int .i64 0) [.ro 39 cs] [], true, [type_of% kE, type_of% kL, (!decide (e = 0)) = false]) := by kernel_rfl
theorem chkn_l (R : Res) (k_pt : (h0 : ¬e = 0) → Res.le (.mk (.int .i64 e) [.ro 39 cs] []) R) (k_pf : (h0 : ¬ (¬e = 0)) → Res.le (.mk (.int .i64 0) [.ro 39 cs] []) R) : CallSpec (Try.prog) (18) ([fV (slB 0 n c) fl ce (sN)]) ([.ro 39 cs]) R := by
  by_cases h0 : ¬e = 0
  · exact (CallSpec.id (go_ok (exec_ok tnamed tcalm tmixed _ _ _ _) (chkn_l_pt n c cs fl ce e kE kL ) (aC (kE) (aC (kL) (aC ((by simpa using h0)) aN))))).le (k_pt h0)
  · exact (CallSpec.id (go_ok (exec_ok tnamed tcalm tmixed _ _ _ _) (chkn_l_pf n c cs fl ce e kE kL ) (aC (kE) (aC (kL) (aC ((by simpa using h0)) aN))))).le (k_pf h0)
end
section
variable (fl ce : Int) (kE : CallSpec Try.prog 46 [sN] [] (.mk (.int .i64 90) [] []))
include fl ce kE
theorem chknn_p : go (exec (Try.prog) (8) (18) ([fV (sN) fl ce (sN)]) ([])) [(9, .call (.mk (.int .i64 90) [] []))] = some (.mk (.int .i64 90) [] [], true, [type_of% kE]) := by kernel_rfl
theorem chknn (R : Res) (k_p : Res.le (.mk (.int .i64 90) [] []) R) : CallSpec (Try.prog) (18) ([fV (sN) fl ce (sN)]) ([]) R := by
  exact (CallSpec.id (go_ok (exec_ok tnamed tcalm tmixed _ _ _ _) (chknn_p fl ce kE ) (aC (kE) aN))).le (k_p )
end
section
variable (m d : Nat) (rs : List Value) (fl ce : Int) (kE : CallSpec Try.prog 46 [sN] [] (.mk (.int .i64 90) [] []))
include m d rs fl ce kE
theorem chknb_p : go (exec (Try.prog) (8) (18) ([fV (sN) fl ce (slB 0 m d)]) ([.ro 39 rs])) [(9, .call (.mk (.int .i64 90) [] []))] = some (.mk (.int .i64 90) [.ro 39 rs] [], true, [type_of% kE]) := by kernel_rfl
theorem chknb (R : Res) (k_p : Res.le (.mk (.int .i64 90) [.ro 39 rs] []) R) : CallSpec (Try.prog) (18) ([fV (sN) fl ce (slB 0 m d)]) ([.ro 39 rs]) R := by
  exact (CallSpec.id (go_ok (exec_ok tnamed tcalm tmixed _ _ _ _) (chknb_p m d rs fl ce kE ) (aC (kE) aN))).le (k_p )
end
end Go.Proofs.Ytjalkjeldlchoaa.Ex
end
