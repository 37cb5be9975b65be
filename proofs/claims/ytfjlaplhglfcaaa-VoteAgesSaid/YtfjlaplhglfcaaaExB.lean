/- What the interpreter's steps mean: lists of values that stand for values, renaming, and a small logic for what is checked and owed. -/
import Derived.Test.YtfjlaplhglfcaaaExA
namespace Go.Proofs.Ytfjlaplhglfcaaa.Ex
open Go
set_option linter.unusedVariables false
set_option linter.unusedSimpArgs false
section
variable {α β γ : Type} {R S : α → β → Prop}
theorem L2.len {l : List α} {m : List β} (h : L2 R l m) : l.length = m.length := by
  induction h with
  | nil => rfl
  | cons _ _ ih => simp [ih]
theorem L2.mono {l : List α} {m : List β} (h : L2 R l m) (hr : ∀ a b, R a b → S a b) : L2 S l m := by
  induction h with
  | nil => exact .nil
  | cons h _ ih => exact .cons (hr _ _ h) ih
theorem L2.get {l : List α} {m : List β} (h : L2 R l m) : ∀ (i : Nat) a, l[i]? = some a → ∃ b, m[i]? = some b ∧ R a b := by
  induction h with
  | nil => intro i a h; simp at h
  | cons h _ ih =>
    intro i a ha
    cases i with
    | zero => simp at ha; subst ha; exact ⟨_, rfl, h⟩
    | succ i => simpa using ih i a (by simpa using ha)
theorem L2.get' {l : List α} {m : List β} (h : L2 R l m) : ∀ (i : Nat) b, m[i]? = some b → ∃ a, l[i]? = some a ∧ R a b := by
  induction h with
  | nil => intro i a h; simp at h
  | cons h _ ih =>
    intro i a ha
    cases i with
    | zero => simp at ha; subst ha; exact ⟨_, rfl, h⟩
    | succ i => simpa using ih i a (by simpa using ha)
theorem L2.of_get {l : List α} : ∀ {m : List β}, l.length = m.length → (∀ (i : Nat) a b, l[i]? = some a → m[i]? = some b → R a b) → L2 R l m := by
  induction l with
  | nil => intro m h _; cases m with
    | nil => exact .nil
    | cons _ _ => simp at h
  | cons x l ih => intro m h hr; cases m with
    | nil => simp at h
    | cons y m => exact .cons (hr 0 x y rfl rfl) (ih (by simpa using h) fun i a b ha hb => hr (i + 1) a b (by simpa using ha) (by simpa using hb))
theorem L2.append {l l' : List α} {m m' : List β} (h : L2 R l m) (h' : L2 R l' m') : L2 R (l ++ l') (m ++ m') := by
  induction h with
  | nil => exact h'
  | cons h _ ih => exact .cons h ih
theorem L2.take {l : List α} {m : List β} (h : L2 R l m) : ∀ n, L2 R (l.take n) (m.take n) := by
  induction h with
  | nil => intro n; simp; exact .nil
  | cons h _ ih => intro n; cases n with
    | zero => exact .nil
    | succ n => exact .cons h (ih n)
theorem L2.drop {l : List α} {m : List β} (h : L2 R l m) : ∀ n, L2 R (l.drop n) (m.drop n) := by
  induction h with
  | nil => intro n; simp; exact .nil
  | cons h t ih => intro n; cases n with
    | zero => exact .cons h t
    | succ n => exact ih n
theorem L2.set {l : List α} {m : List β} (h : L2 R l m) : ∀ (i : Nat) {a b}, R a b → L2 R (l.set i a) (m.set i b) := by
  induction h with
  | nil => intro i a b _; exact .nil
  | cons h t ih => intro i a b hr; cases i with
    | zero => exact .cons hr t
    | succ i => exact .cons h (ih i hr)
theorem L2.eq {l m : List α} (h : L2 (fun a b => b = a) l m) : m = l := by
  induction h with
  | nil => rfl
  | cons h _ ih => rw [h, ih]
theorem L2.refl (l : List α) : L2 (fun a b => b = a) l l := by
  induction l with
  | nil => exact .nil
  | cons x l ih => exact .cons rfl ih
theorem L2.flatMap {δ : Type} {R' : γ → δ → Prop} {l : List α} {m : List β} (h : L2 R l m) {f : α → List γ} {g : β → List δ} (hf : ∀ a b, R a b → L2 R' (f a) (g b)) : L2 R' (l.flatMap f) (m.flatMap g) := by
  induction h with
  | nil => exact .nil
  | cons h _ ih => simpa using (hf _ _ h).append ih
end
/-- What was checked is so, and what is owed holds. -/
def Ans.good {α : Type} (r : Ans α) : Prop := r.ok = true ∧ ∀ p ∈ r.owe, p
def Sat {α : Type} (x : M α) (R : α → Prop) : Prop := ∀ o r, x o = some r → r.good → R r.a
section
variable {α β : Type}
theorem Sat.mono {x : M α} {R S : α → Prop} (h : Sat x R) (hr : ∀ a, R a → S a) : Sat x S := fun o r he hg => hr _ (h o r he hg)
theorem Sat.ret (a : α) {R : α → Prop} (h : R a) : Sat (Ex.ret a) R := by
  intro o r he _
  cases he
  exact h
theorem Sat.stop {R : α → Prop} : Sat (Ex.stop : M α) R := by
  intro o r he
  cases he
theorem Sat.bind {x : M α} {f : α → M β} {R : α → Prop} {S : β → Prop} (hx : Sat x R) (hf : ∀ a, R a → Sat (f a) S) : Sat (x.bind f) S := by
  intro o r he hg
  unfold M.bind at he
  split at he
  · cases he
  · rename_i a o1 k w h1
    split at he
    · cases he
    · rename_i b o2 k' w' h2
      simp only [Option.some.injEq] at he
      subst he
      have hk := hg.1
      simp only [Bool.and_eq_true] at hk
      have g1 : (⟨a, o1, k, w⟩ : Ans α).good := ⟨hk.1, fun p hp => hg.2 p (List.mem_append_left _ hp)⟩
      have g2 : (⟨b, o2, k', w'⟩ : Ans β).good := ⟨hk.2, fun p hp => hg.2 p (List.mem_append_right _ hp)⟩
      exact hf a (hx o ⟨a, o1, k, w⟩ h1 g1) o1 ⟨b, o2, k', w'⟩ h2 g2
theorem Sat.map {x : M α} {f : α → β} {S : β → Prop} (hx : Sat x fun a => S (f a)) : Sat (x.map f) S := by
  intro o r he hg
  unfold M.map at he
  split at he
  · cases he
  · rename_i a o1 k w h1
    simp only [Option.some.injEq] at he
    subst he
    exact hx _ _ h1 hg
theorem Sat.lift {x : Option α} {R : α → Prop} (h : ∀ a, x = some a → R a) : Sat (Ex.lift x) R := by
  cases x with
  | none => exact Sat.stop
  | some a => exact Sat.ret a (h a rfl)
theorem Sat.chk {b : Bool} {R : Unit → Prop} (h : b = true → R ()) : Sat (Ex.chk b) R := by
  intro o r he hg
  unfold Ex.chk at he
  split at he
  · cases he
    exact h hg.1
  · cases he
    exact h (hg.2 _ (List.mem_singleton.2 rfl))
  · cases he
  · cases he
    exact h hg.1
theorem Sat.ask {b : Bool} {R : Bool → Prop} (h : R b) : Sat (Ex.ask b) R := by
  intro o r he hg
  unfold Ex.ask at he
  split at he
  · cases he; exact h
  · cases he
    have : b = _ := hg.2 _ (List.mem_singleton.2 rfl)
    subst this
    exact h
  · cases he
  · cases he; exact h
theorem Sat.see {v : Value} : Sat (Ex.see v) fun u => u = v := by
  intro o r he hg
  unfold Ex.see at he
  split at he
  · cases he; rfl
  · cases he
    have : v = _ := hg.2 _ (List.mem_singleton.2 rfl)
    exact this.symm
  · cases he
  · cases he; rfl
end
/-- A step of a proof about what is checked and owed: bind, look at the first, go on. -/
theorem Sat.bind_lift {α β : Type} {x : Option α} {f : α → M β} {S : β → Prop} (hf : ∀ a, x = some a → Sat (f a) S) : Sat ((Ex.lift x).bind f) S := Sat.bind (R := fun a => x = some a) (Sat.lift fun _ h => h) hf
theorem Sat.bind_chk {β : Type} {b : Bool} {f : Unit → M β} {S : β → Prop} (hf : b = true → Sat (f ()) S) : Sat ((Ex.chk b).bind f) S := Sat.bind (R := fun _ => b = true) (Sat.chk fun h => h) fun _ h => hf h
theorem Sat.bind_ask {β : Type} {b : Bool} {f : Bool → M β} {S : β → Prop} (hf : Sat (f b) S) : Sat ((Ex.ask b).bind f) S := Sat.bind (R := fun d => d = b) (Sat.ask rfl) fun _ h => by rw [h]; exact hf
end Go.Proofs.Ytfjlaplhglfcaaa.Ex
