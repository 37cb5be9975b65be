/- Regions whose order is drawn: the run in the order of the text, as sequences. -/
import Derived.Test.YtfjlaplhglfcaaaExS
namespace Go.Proofs.Ytfjlaplhglfcaaa.Ex
open Go
set_option linter.unusedVariables false
set_option linter.unusedSimpArgs false
section
variable {P : Program}
/-- The temps that an operation looks at stand for the real ones. -/
def Seen (all : Array Oper) (ν : Nu) (fr : Fr) (tmps : Array Value) (o : Oper) : Prop := ∀ d v, d ∈ o.looksAt all → fr.get d = some v → ∃ v', tmps[d]? = some v' ∧ VR ν v v'
/-- The test's word at an operation, whatever stands for the frame. -/
def Wants (all : Array Oper) (fr : Fr) (o : Oper) (b : Bool) : Prop := ∀ ν (tmps : Array Value), Seen all ν fr tmps o → Region.wanted o (yielded all tmps) = b
theorem wants_sat {ops : Array Oper} {fr : Fr} {o : Oper} : Sat (wantA ops fr o) (Wants ops fr o) := by
  unfold wantA
  split
  · rename_i hg
    exact Sat.ret _ fun ν tmps h => by simp [Region.wanted, hg]
  · rename_i j want hg
    split
    · rename_i hd
      exact Sat.ret _ fun ν tmps h => by simp [Region.wanted, hg, yielded, hd]
    · rename_i d hd
      have hin : d ∈ o.looksAt ops := by simp [Oper.looksAt, hg, hd]
      split
      · rename_i b hb
        refine Sat.bind_ask (Sat.ret _ fun ν tmps h => ?_)
        obtain ⟨v', h1, h2⟩ := h d _ hin hb
        have : v' = .bool b := h2
        subst this
        simp [Region.wanted, hg, yielded, hd, h1]
      · rename_i hb
        refine Sat.ret _ fun ν tmps h => ?_
        obtain ⟨v', h1, h2⟩ := h d _ hin hb
        obtain ⟨cs', rfl, hl⟩ := h2
        simp [Region.wanted, hg, yielded, hd, h1]
      · exact Sat.stop
/-- One operation of the run in the order of the text. -/
def OneStep (P : Program) (all : Array Oper) (o : Oper) (fr : Fr) (hp : Hp) (fr' : Fr) (hp' : Hp) (s : Step) : Prop :=
  (Wants all fr o true ∧ ∃ r, OpOk P (footA P fr hp o) fr hp o r ∧ fr' = putT fr o.dst r.v ∧ hp' = r.hp ∧ s = ⟨footA P fr hp o, r.wr, hp.length, r.hp.length⟩) ∨
  (Wants all fr o false ∧ fr' = putT fr o.dst undef ∧ hp' = hp ∧ s = ⟨[], [], hp.length, hp.length⟩)
theorem seqs_sat {call : CallF} (hN : Named P) (hcall : Sound P call) {all : Array Oper} : ∀ (os : List Oper) (fr : Fr) (hp : Hp) (wr : List Nat) (st : List Step),
    Sat (opsA P call all os fr hp wr st) fun r => ∃ (f : Nat → Fr) (h : Nat → Hp) (s : Nat → Step), f 0 = fr ∧ h 0 = hp ∧ (∀ k o, os[k]? = some o → OneStep P all o (f k) (h k) (f (k + 1)) (h (k + 1)) (s k)) ∧
      f os.length = r.1 ∧ h os.length = r.2.1 ∧ (∀ id, id ∈ r.2.2.1 ↔ id ∈ wr ∨ ∃ k, k < os.length ∧ id ∈ (s k).wr) ∧ r.2.2.2 = st.reverse ++ (List.range os.length).map s
  | [], fr, hp, wr, st => Sat.ret _ ⟨fun _ => fr, fun _ => hp, fun _ => ⟨[], [], 0, 0⟩, rfl, rfl, fun k o h => by simp at h, rfl, rfl, fun id => ⟨.inl, fun h => h.elim (fun x => x) (fun ⟨k, hk, _⟩ => by simp at hk)⟩, by simp⟩
  | o :: os, fr, hp, wr, st => by
    have glue : ∀ (fr1 : Fr) (hp1 : Hp) (s0 : Step), OneStep P all o fr hp fr1 hp1 s0 → ∀ wr1 : List Nat, (∀ id, id ∈ wr1 ↔ id ∈ s0.wr ∨ id ∈ wr) → ∀ r : Fr × Hp × List Nat × List Step,
        (∃ (f : Nat → Fr) (h : Nat → Hp) (s : Nat → Step), f 0 = fr1 ∧ h 0 = hp1 ∧ (∀ k o, os[k]? = some o → OneStep P all o (f k) (h k) (f (k + 1)) (h (k + 1)) (s k)) ∧
          f os.length = r.1 ∧ h os.length = r.2.1 ∧ (∀ id, id ∈ r.2.2.1 ↔ id ∈ wr1 ∨ ∃ k, k < os.length ∧ id ∈ (s k).wr) ∧ r.2.2.2 = (s0 :: st).reverse ++ (List.range os.length).map s) →
        ∃ (f : Nat → Fr) (h : Nat → Hp) (s : Nat → Step), f 0 = fr ∧ h 0 = hp ∧ (∀ k o', (o :: os)[k]? = some o' → OneStep P all o' (f k) (h k) (f (k + 1)) (h (k + 1)) (s k)) ∧
          f (o :: os).length = r.1 ∧ h (o :: os).length = r.2.1 ∧ (∀ id, id ∈ r.2.2.1 ↔ id ∈ wr ∨ ∃ k, k < (o :: os).length ∧ id ∈ (s k).wr) ∧ r.2.2.2 = st.reverse ++ (List.range (o :: os).length).map s := by
      rintro fr1 hp1 s0 h0 wr1 hw1 r ⟨f, h, s, e1, e2, e3, e4, e5, e6, e7⟩
      refine ⟨fun k => match k with | 0 => fr | k + 1 => f k, fun k => match k with | 0 => hp | k + 1 => h k, fun k => match k with | 0 => s0 | k + 1 => s k, rfl, rfl, ?_, e4, e5, ?_, ?_⟩
      · intro k o' hk
        cases k with
        | zero =>
          simp only [List.getElem?_cons_zero, Option.some.injEq] at hk
          subst hk
          show OneStep P all o fr hp (f 0) (h 0) s0
          rw [e1, e2]
          exact h0
        | succ k => exact e3 k o' (by simpa using hk)
      · intro id
        rw [e6, hw1]
        constructor
        · rintro ((h | h) | ⟨k, hk, h⟩)
          · exact .inr ⟨0, by simp, h⟩
          · exact .inl h
          · exact .inr ⟨k + 1, by simp; omega, h⟩
        · rintro (h | ⟨k, hk, h⟩)
          · exact .inl (.inr h)
          · cases k with
            | zero => exact .inl (.inl h)
            | succ k => exact .inr ⟨k, by simp at hk; omega, h⟩
      · rw [e7, List.length_cons, List.range_succ_eq_map]
        simp
    unfold opsA
    refine Sat.bind wants_sat fun b hb => ?_
    split
    · rename_i hbt
      subst hbt
      refine Sat.bind (opS_sat (F := footA P fr hp o) hN (fun g args hids => hcall _ g args hp hids) fun id hid => hid) fun r hr => (seqs_sat hN hcall os _ _ _ _).mono fun q hq => ?_
      exact glue _ _ ⟨footA P fr hp o, r.wr, hp.length, r.hp.length⟩ (.inl ⟨hb, r, hr, rfl, rfl, rfl⟩) _ (fun id => by simp) q hq
    · rename_i hbf
      have hbf : b = false := by simpa using hbf
      subst hbf
      refine (seqs_sat hN hcall os _ _ _ _).mono fun q hq => ?_
      exact glue _ _ ⟨[], [], hp.length, hp.length⟩ (.inr ⟨hb, rfl, rfl, rfl⟩) _ (fun id => by simp) q hq
end
end Go.Proofs.Ytfjlaplhglfcaaa.Ex
