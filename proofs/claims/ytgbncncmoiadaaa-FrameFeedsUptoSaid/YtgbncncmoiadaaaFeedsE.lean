/- FrameFeeds: all its rounds. -/
import Derived.Test.YtgbncncmoiadaaaFeedsD
namespace Go.Proofs.Ytgbncncmoiadaaa.Ex
open Go
set_option linter.unusedVariables false
/-- The bytes behind the loop, and how many pieces. -/
def F.fd : List ByteArray → List UInt8 → Nat → List UInt8 × Nat
  | [], T, i => (T, i)
  | p :: r, T, i => if T.length < 65536 then F.fd r (T ++ bl p) (i + 1) else (T, i)
def fdOut (A : List ByteArray) (x : List UInt8 × Nat) : Out := ⟨.exit 0, frFeeds A.length (bV 2 x.1) ((F.count (F.str x.1) : Nat) : Int) (x.2 : Nat), [.ro 9 (A.map .string), rdB (F.held (F.str x.1)) (F.badS x.1)] ++ bB x.1, []⟩
theorem feeds_rounds {A : List ByteArray} (hA : A.length ≤ 4398046510000) (hp : ∀ p ∈ A, p.size ≤ 1048576) : ∀ (r pre : List ByteArray) (T : List UInt8), A = pre ++ r → T.length ≤ 65536 + 1048576 →
    LoopSpec Try.prog 1 feeds_loop (frFeeds A.length (bV 2 T) ((F.count (F.str T) : Nat) : Int) (pre.length : Nat)) ([.ro 9 (A.map .string), rdB (F.held (F.str T)) (F.badS T)] ++ bB T) (fdOut A (F.fd r T pre.length))
  | [], pre, T, hA2, hT => by
    have e : pre.length = A.length := by rw [hA2, List.append_nil]
    refine .last (feeds_step (p := ⟨#[]⟩) hA (by omega) (fun h => absurd h (by omega)) (by decide) hT _ (fun h => absurd h (by omega)) (fun _ => ⟨rfl, rfl, rfl, fun j hj => hj⟩)) (by intro h; cases h)
  | p :: r, pre, T, hA2, hT => by
    have hl : pre.length < A.length := by rw [hA2]; simp
    have hj : A[pre.length]? = some p := by rw [hA2]; simp
    have hpz := hp p (List.mem_of_getElem? hj)
    unfold F.fd
    by_cases h : T.length < 65536
    · rw [if_pos h]
      have next := feeds_rounds hA hp r (pre ++ [p]) (T ++ bl p) (by rw [hA2, List.append_assoc]; rfl) (by rw [List.length_append, bl_len]; omega)
      have hpl : (pre ++ [p]).length = pre.length + 1 := by simp
      rw [hpl] at next
      exact .more (o1 := ⟨.normal, frFeeds A.length (bV 2 (T ++ bl p)) ((F.count (F.str (T ++ bl p)) : Nat) : Int) ((pre.length + 1 : Nat) : Int), [.ro 9 (A.map .string), rdB (F.held (F.str (T ++ bl p))) (F.badS (T ++ bl p))] ++ bB (T ++ bl p), []⟩)
        (feeds_step hA (by omega) (fun _ => hj) hpz hT _ (fun _ _ => ⟨rfl, rfl, rfl, fun j hj => hj⟩) (fun q => absurd ⟨hl, h⟩ q)) rfl next (fun j hj => by cases hj)
    · rw [if_neg h]
      exact .last (feeds_step hA (by omega) (fun _ => hj) hpz hT _ (fun _ q => absurd q h) (fun _ => ⟨rfl, rfl, rfl, fun j hj => hj⟩)) (by intro h; cases h)
def F.fT (A : List ByteArray) : ByteArray := F.str (F.fd A [] 0).1
def F.fI (A : List ByteArray) : Nat := (F.fd A [] 0).2
def F.fBad (A : List ByteArray) : Int := F.badS (F.fd A [] 0).1
theorem feeds_all {A : List ByteArray} (hA : A.length ≤ 4398046510000) (hp : ∀ p ∈ A, p.size ≤ 1048576) :
    CodeSpec Try.prog 1 feeds_loopC (frFeeds A.length (.slice none 0 0) 0 0) [.ro 9 (A.map .string), rdB ⟨#[]⟩ 0] (fdOut A (F.fd A [] 0)) :=
  (feeds_rounds hA hp A [] [] rfl (by decide)).code
def feedsL1 (A : List ByteArray) (fr : Fr) (hp : Hp) : Out := match fr.get 0, hp with
  | some (.slice _ np _), [a, _] => ⟨.exit 0, frFeeds np (.slice (some ⟨2, 0, none⟩) (F.fT A).size (F.fT A).size) ((F.count (F.fT A) : Nat) : Int) (F.fI A : Nat), [a, rdB (F.held (F.fT A)) (F.fBad A), .own 5 (bytesOf (F.fT A))], []⟩
  | _, _ => ⟨.ret, fr, [], []⟩
def feedsL0 (A : List ByteArray) (fr : Fr) (hp : Hp) : Out := match fr.get 0, hp with
  | some (.slice _ np _), [a, _] => ⟨.exit 0, frFeeds np (.slice none 0 0) ((F.count (F.fT A) : Nat) : Int) (F.fI A : Nat), [a, rdB (F.held (F.fT A)) (F.fBad A)], []⟩
  | _, _ => ⟨.ret, fr, [], []⟩
theorem feeds_told1 {A : List ByteArray} (hA : A.length ≤ 4398046510000) (hp : ∀ p ∈ A, p.size ≤ 1048576) (hn : (F.fd A [] 0).1 ≠ []) :
    CodeSpec Try.prog 1 feeds_loopC (frFeeds A.length (.slice none 0 0) 0 0) [.ro 9 (A.map .string), rdB ⟨#[]⟩ 0]
      ⟨.exit 0, frFeeds A.length (.slice (some ⟨2, 0, none⟩) (F.fT A).size (F.fT A).size) ((F.count (F.fT A) : Nat) : Int) (F.fI A : Nat), [.ro 9 (A.map .string), rdB (F.held (F.fT A)) (F.fBad A), .own 5 (bytesOf (F.fT A))], []⟩ := by
  have h := feeds_all hA hp
  unfold fdOut at h
  have e : (F.fd A [] 0).1.length = (F.fT A).size := (str_size _).symm
  rw [bV_some hn, bB_some hn, e] at h
  exact h
theorem feeds_told0 {A : List ByteArray} (hA : A.length ≤ 4398046510000) (hp : ∀ p ∈ A, p.size ≤ 1048576) (hn : (F.fd A [] 0).1 = []) :
    CodeSpec Try.prog 1 feeds_loopC (frFeeds A.length (.slice none 0 0) 0 0) [.ro 9 (A.map .string), rdB ⟨#[]⟩ 0]
      ⟨.exit 0, frFeeds A.length (.slice none 0 0) ((F.count (F.fT A) : Nat) : Int) (F.fI A : Nat), [.ro 9 (A.map .string), rdB (F.held (F.fT A)) (F.fBad A)], []⟩ := by
  have h := feeds_all hA hp
  unfold fdOut at h
  have k1 : bV 2 (F.fd A [] 0).1 = .slice none 0 0 := by rw [hn]; rfl
  have k2 : bB (F.fd A [] 0).1 = [] := by rw [hn]; rfl
  rw [k1, k2] at h
  exact h
end Go.Proofs.Ytgbncncmoiadaaa.Ex
