/- Regions whose order is drawn: any order that the edges allow ends as the text's. -/
import Derived.Test.YtfjlaplhglfcaaaExZ3
namespace Go.Proofs.Ytfjlaplhglfcaaa.Ex
open Go
set_option linter.unusedVariables false
set_option linter.unusedSimpArgs false
section
variable {P : Program} {ops : Array Oper}
theorem more_set {listed : Array Bool} {i : Nat} (hi : i < listed.size) : (fun k => (listed.setIfInBounds i true).getD k false) = more (fun k => listed.getD k false) i := by
  funext k
  show (listed.setIfInBounds i true).getD k false = (listed.getD k false || k == i)
  rw [Array.getD_eq_getD_getElem?, Array.getD_eq_getD_getElem?, Array.getElem?_setIfInBounds]
  by_cases c : i = k
  · subst c; simp [hi]
  · rw [if_neg c]
    have : (k == i) = false := by simpa using fun e => c e.symm
    simp [this]
/-- The run in the order of the text, and what is calm. -/
structure Text (P : Program) (ops : Array Oper) (f : Nat → Fr) (h : Nat → Hp) (s : Nat → Step) : Prop where
  one : ∀ (k : Nat) (o : Oper), ops[k]? = some o → OneStep P ops o (f k) (h k) (f (k + 1)) (h (k + 1)) (s k)
  back : ∀ (j : Nat) (o : Oper) (e : Edge), ops[j]? = some o → e ∈ o.after.toList → Region.binds .any e = true → e.on < j
  calm : ∀ i j, i < j → j < ops.size → ((Region.before ops).getD j 0).testBit i = true ∨ (clash (s i) (s j) = false ∧ Oper.apart ops (ops.getD i default) (ops.getD j default) = true)
variable {f : Nat → Fr} {h : Nat → Hp} {s : Nat → Step}
theorem Text.at (T : Text P ops f h s) {k : Nat} (hk : k < ops.size) : OneStep P ops (ops.getD k default) (f k) (h k) (f (k + 1)) (h (k + 1)) (s k) :=
  T.one k _ (by rw [Array.getD_eq_getD_getElem?, Array.getElem?_eq_getElem hk]; rfl)
theorem Text.mono (T : Text P ops f h s) : ∀ j k, j ≤ k → k ≤ ops.size → (h j).length ≤ (h k).length
  | j, 0, hj, _ => by obtain rfl : j = 0 := by omega
                      exact Nat.le_refl _
  | j, k + 1, hj, hk => by
    by_cases c : j = k + 1
    · rw [c]; exact Nat.le_refl _
    · exact Nat.le_trans (T.mono j k (by omega) (by omega)) (T.at (by omega)).mono
theorem Text.flen (T : Text P ops f h s) : ∀ k, k ≤ ops.size → (f k).n = (f 0).n
  | 0, _ => rfl
  | k + 1, hk => (T.at (by omega)).flen.trans (T.flen k (by omega))
theorem OneStep.rng {o : Oper} {fr fr' : Fr} {hp hp' : Hp} {st : Step} {all : Array Oper} (q : OneStep P all o fr hp fr' hp' st) : st.lo = hp.length ∧ st.hi = hp'.length := by
  rcases q with ⟨_, r, _, _, rfl, rfl⟩ | ⟨_, _, rfl, rfl⟩ <;> exact ⟨rfl, rfl⟩
theorem touchT_not {t k : Nat} (hk : k < ops.size) (h : touchT ops t k = false) : (ops.getD k default).dst ≠ some t := by
  intro e
  unfold touchT at h
  rw [Array.getD_eq_getD_getElem?, Array.getElem?_eq_getElem hk] at e
  rw [Array.getElem?_eq_getElem hk] at h
  simp only [Option.getD_some] at e
  simp [e] at h
theorem Text.next (T : Text P ops f h s) {S : Nat → Bool} {i : Nat} {o : Oper} {r : Res} (hi : i < ops.size) (ho : ops[i]? = some o) (hS : S i = false)
    (hcl : ∀ j k, j < ops.size → S j = true → ((Region.before ops).getD j 0).testBit k = true → S k = true) (hrd : ∀ k, ((Region.before ops).getD i 0).testBit k = true → S k = true)
    (hfr : f (i + 1) = putT (f i) o.dst r.v) (hhp : h (i + 1) = r.hp) (hwr : (s i).wr = r.wr) (hsh : Shape (s i).rd (h i) r) : Next P ops f h s S i o r where
  lt := hi
  op := ho
  notyet := hS
  before := fun k hk hSk => by
    rcases T.calm k i hk hi with c | c
    · rw [hrd k c] at hSk; cases hSk
    · have : ops.getD i default = o := by rw [Array.getD_eq_getD_getElem?, ho]; rfl
      rw [this] at c
      exact c
  after := fun k hk hkn hSk => by
    rcases T.calm i k hk hkn with c | c
    · rw [hcl k i hkn hSk c] at hS; cases hS
    · have : ops.getD i default = o := by rw [Array.getD_eq_getD_getElem?, ho]; rfl
      rw [this] at c
      exact c
  mono := T.mono
  rng := fun k hk => (T.at hk).rng
  tmpk := fun t k hk ht => (T.at hk).tmp (touchT_not hk ht)
  blkk := fun id k hk hid => (T.at hk).blk hid
  flen := T.flen i (Nat.le_of_lt hi)
  fr := hfr
  hp := hhp
  wr := hwr
  shape := hsh
end
end Go.Proofs.Ytfjlaplhglfcaaa.Ex
