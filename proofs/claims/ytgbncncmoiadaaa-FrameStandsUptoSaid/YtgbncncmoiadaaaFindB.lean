/- find: its loop. -/
import Derived.Test.YtgbncncmoiadaaaFindA
namespace Go.Proofs.Ytgbncncmoiadaaa.Ex
open Go
set_option linter.unusedVariables false
/-- Does it stand here? -/
def F.here (d s : List UInt8) (i : Nat) : Bool := decide (i + s.length ≤ d.length) && decide ((d.drop i).take s.length = s)
/-- The first place where it stands. -/
def F.findL (d s : List UInt8) : Nat → Nat → Nat
  | 0, i => i
  | k + 1, i => bif F.here d s i then i else F.findL d s k (i + 1)
theorem findL_first : ∀ {d s : List UInt8} {k i p : Nat}, i ≤ p → F.here d s p = true → p < i + k → i ≤ F.findL d s k i ∧ F.findL d s k i ≤ p ∧ F.here d s (F.findL d s k i) = true
  | d, s, 0, i, p, h1, _, h3 => by omega
  | d, s, k + 1, i, p, h1, h2, h3 => by
    unfold F.findL
    cases hq : F.here d s i with
    | true => exact ⟨Nat.le_refl _, h1, hq⟩
    | false =>
      have hne : i ≠ p := by intro e; rw [e, h2] at hq; cases hq
      have := findL_first (d := d) (s := s) (k := k) (i := i + 1) (p := p) (by omega) h2 (by omega)
      exact ⟨by show i ≤ F.findL d s k (i + 1); omega, this.2⟩
theorem here_test {d s : ByteArray} {i : Nat} (h : i + s.size ≤ d.size) : F.here (bl d) (bl s) i = (ByteArray.toList (d.extract (Int.toNat (i : Int)) (Int.toNat ((i : Int) + ((s.size : Nat) : Int)))) == ByteArray.toList s) := by
  unfold F.here
  rw [bl_beq, bl_cut, bl_len, bl_len, decide_eq_true h, Bool.true_and, Int.toNat_natCast, show Int.toNat ((i : Int) + ((s.size : Nat) : Int)) = i + s.size from by omega, List.drop_take, Nat.add_sub_cancel_left]
  by_cases e : List.take s.size (List.drop i (bl d)) = bl s
  · rw [e, decide_eq_true rfl]; exact (beq_self_eq_true _).symm
  · rw [decide_eq_false e]; exact (beq_false_of_ne e).symm
theorem find_rounds {d s : ByteArray} (hs : s.size ≤ 4398046510000 ∧ d.size ≤ 4398046510000) : ∀ (k i p : Nat), i ≤ p → F.here (bl d) (bl s) p = true → p < i + k →
    LoopSpec Try.prog 0 find_loop (frFind d s 0 i) [] ⟨.ret, frFind d s (F.findL (bl d) (bl s) k i : Nat) (F.findL (bl d) (bl s) k i : Nat), [], []⟩
  | 0, i, p, h1, _, h3 => by omega
  | k + 1, i, p, h1, h2, h3 => by
    have hp : p + s.size ≤ d.size := by
      have := (Bool.and_eq_true_iff.1 h2).1
      have := of_decide_eq_true this
      rw [bl_len, bl_len] at this
      exact this
    have ht := here_test (d := d) (s := s) (i := i) (by omega)
    unfold F.findL
    cases hq : F.here (bl d) (bl s) i with
    | true =>
      rw [hq] at ht
      exact .last (find_round d s i ⟨by omega, by omega⟩ hs _ (fun _ _ => ⟨rfl, rfl, rfl, fun j hj => hj⟩) (fun _ h => absurd ht.symm h) (fun h => absurd (show (i : Int) + (s.size : Int) ≤ (d.size : Int) by omega) h)) (by intro h; cases h)
    | false =>
      rw [hq] at ht
      have hne : i ≠ p := by intro e; rw [e, h2] at hq; cases hq
      exact .more (o1 := ⟨.normal, frFind d s 0 ((i : Int) + 1), [], []⟩) (find_round d s i ⟨by omega, by omega⟩ hs _ (fun _ h => by rw [← ht] at h; cases h) (fun _ _ => ⟨rfl, rfl, rfl, fun j hj => hj⟩) (fun h => absurd (show (i : Int) + (s.size : Int) ≤ (d.size : Int) by omega) h)) rfl (find_rounds hs k (i + 1) p (by omega) h2 (by omega)) (fun j hj => by cases hj)
def F.findK (d s : ByteArray) (from_ : Int) : Int := (F.findL (bl d) (bl s) (d.size + 1) from_.toNat : Nat)
theorem find_told {d s : ByteArray} {i : Int} (hs : s.size ≤ 4398046510000 ∧ d.size ≤ 4398046510000) (hi : 0 ≤ i) {p : Nat} (h1 : i.toNat ≤ p) (h2 : F.here (bl d) (bl s) p = true) :
    CodeSpec Try.prog 0 find_loopC (frFind d s 0 i) [] ⟨.ret, frFind d s (F.findK d s i) (F.findK d s i), [], []⟩ := by
  have hp : p + s.size ≤ d.size := by
    have := (Bool.and_eq_true_iff.1 h2).1
    have := of_decide_eq_true this
    rw [bl_len, bl_len] at this
    exact this
  have h := (find_rounds hs (d.size + 1) i.toNat p h1 h2 (by omega)).code
  rw [Int.toNat_of_nonneg hi] at h
  exact h
def findLSum (fr : Fr) (hp : Hp) : Out := match fr.get 0, fr.get 1, fr.get 7 with
  | some (.string d), some (.string s), some (.int _ i) => ⟨.ret, frFind d s (F.findK d s i) (F.findK d s i), [], []⟩
  | _, _, _ => ⟨.ret, fr, [], []⟩
end Go.Proofs.Ytgbncncmoiadaaa.Ex
