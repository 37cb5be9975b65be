/- The sum tells one turned byte. -/
import Derived.Test.YtgbncncmoiadaaaFeedG
import Derived.Test.YtgbncncmoiadaaaEncC
namespace Go.Proofs.Ytgbncncmoiadaaa.Ex
open Go
set_option linter.unusedVariables false
theorem xor_cancel {a b k : Nat} (h : a ^^^ k = b ^^^ k) : a = b := by
  have := congrArg (· ^^^ k) h
  simpa only [Nat.xor_assoc, Nat.xor_self, Nat.xor_zero] using this
theorem u16_cases {c : Int} (h : F.u16 c) : ∃ n : Nat, c = n ∧ n < 65536 := by
  obtain ⟨n, rfl⟩ := Int.eq_ofNat_of_zero_le h.1
  exact ⟨n, rfl, by have := h.2; omega⟩
theorem top_bit {a b : Nat} (ha : a < 65536) (hb : b < 65536) (h : (a / 2) ^^^ 33800 = b / 2) : False := by
  have h1 := congrArg (fun n => Nat.testBit n 15) h
  simp only [Nat.testBit_xor] at h1
  rw [Nat.testBit_lt_two_pow (show a / 2 < 2 ^ 15 by omega), Nat.testBit_lt_two_pow (show b / 2 < 2 ^ 15 by omega)] at h1
  exact absurd h1 (by decide)
theorem stepN_inj {a b : Nat} (ha : a < 65536) (hb : b < 65536) (h : stepN a = stepN b) : a = b := by
  unfold stepN at h
  by_cases h1 : a % 2 = 1 <;> by_cases h2 : b % 2 = 1
  · rw [if_pos h1, if_pos h2] at h
    have := xor_cancel h
    omega
  · rw [if_pos h1, if_neg h2] at h
    exact (top_bit ha hb h).elim
  · rw [if_neg h1, if_pos h2] at h
    exact (top_bit hb ha h.symm).elim
  · rw [if_neg h1, if_neg h2] at h
    omega
theorem step1_inj {a b : Int} (ha : F.u16 a) (hb : F.u16 b) (h : F.step1 a = F.step1 b) : a = b := by
  obtain ⟨n, rfl, hn⟩ := u16_cases ha
  obtain ⟨m, rfl, hm⟩ := u16_cases hb
  rw [step1_nat hn, step1_nat hm] at h
  have := stepN_inj hn hm (by omega)
  omega
theorem steps_inj : ∀ (n : Nat) {a b : Int}, F.u16 a → F.u16 b → F.steps n a = F.steps n b → a = b
  | 0, _, _, _, _, h => h
  | n + 1, _, _, ha, hb, h => step1_inj ha hb (steps_inj n (step1_u16 ha) (step1_u16 hb) h)
theorem add_inj {a b : Int} {x y : UInt8} (ha : F.u16 a) (hb : F.u16 b) (h : F.add a ((x.toNat : Nat) : Int) = F.add b ((y.toNat : Nat) : Int)) :
    ∃ n m : Nat, a = n ∧ b = m ∧ n ^^^ x.toNat = m ^^^ y.toNat := by
  unfold F.add at h
  have := steps_inj 8 (bxor_u16 _ _) (bxor_u16 _ _) h
  obtain ⟨n, rfl, hn⟩ := u16_cases ha
  obtain ⟨m, rfl, hm⟩ := u16_cases hb
  rw [bxor_nat hn (by have := x.toNat_lt; omega), bxor_nat hm (by have := y.toNat_lt; omega)] at this
  exact ⟨n, m, rfl, rfl, by omega⟩
theorem add_inj_sum {a b : Int} {x : UInt8} (ha : F.u16 a) (hb : F.u16 b) (h : F.add a ((x.toNat : Nat) : Int) = F.add b ((x.toNat : Nat) : Int)) : a = b := by
  obtain ⟨n, m, rfl, rfl, e⟩ := add_inj ha hb h
  rw [xor_cancel e]
theorem add_inj_byte {a : Int} {x y : UInt8} (ha : F.u16 a) (h : F.add a ((x.toNat : Nat) : Int) = F.add a ((y.toNat : Nat) : Int)) : x = y := by
  obtain ⟨n, m, e1, e2, e⟩ := add_inj ha ha h
  have : n = m := by omega
  subst this
  rw [Nat.xor_comm n, Nat.xor_comm n] at e
  exact UInt8.toNat_inj.1 (xor_cancel e)
def foldS (c : Int) (l : List UInt8) : Int := l.foldl (fun c b => F.add c ((b.toNat : Nat) : Int)) c
theorem fold_inj : ∀ (l : List UInt8) {a b : Int}, F.u16 a → F.u16 b → foldS a l = foldS b l → a = b
  | [], _, _, _, _, h => h
  | x :: l, a, b, ha, hb, h => add_inj_sum (x := x) ha hb (fold_inj l (add_u16 _ _) (add_u16 _ _) h)
theorem fold_turn {p q : List UInt8} {x y : UInt8} {c : Int} (hc : F.u16 c) (h : foldS c (p ++ x :: q) = foldS c (p ++ y :: q)) : x = y := by
  unfold foldS at h
  rw [List.foldl_append, List.foldl_append] at h
  exact add_inj_byte (fold_u16 p hc) (fold_inj q (add_u16 _ _) (add_u16 _ _) h)
theorem sum_str (l : List UInt8) : F.sum (F.str l) = foldS 65535 l := sum_list _
theorem u8_pair {a b : Int} (ha : F.u16 a) (hb : F.u16 b) (h1 : IntKind.u8.wrap a = IntKind.u8.wrap b) (h2 : IntKind.u8.wrap (a / 256) = IntKind.u8.wrap (b / 256)) : a = b := by
  rw [IntKind.wrap_u8, IntKind.wrap_u8] at h1 h2
  unfold F.u16 at ha hb
  omega
theorem unbyte_inj {a b : Int} (ha : 0 ≤ a ∧ a ≤ 255) (hb : 0 ≤ b ∧ b ≤ 255) (h : unbyte (.int .u8 a) = unbyte (.int .u8 b)) : a = b := by
  have := unbyte_nat ha
  rw [h, unbyte_nat hb] at this
  exact this.symm
theorem checkN_u16 (s : ByteArray) : F.u16 (F.checkN s) := add_u16 _ _
theorem sumOf_inj {l m : List UInt8} (h : F.sumOf l = F.sumOf m) : F.checkN (F.str l) = F.checkN (F.str m) := by
  unfold F.sumOf F.check at h
  rw [bl_str, bl_str, List.cons.injEq, List.cons.injEq] at h
  exact u8_pair (checkN_u16 _) (checkN_u16 _) (unbyte_inj (u8_le _) (u8_le _) h.1) (unbyte_inj (u8_le _) (u8_le _) h.2.1)
/-- One turned byte that is not the third: another sum. -/
theorem sumOf_turn {p q : List UInt8} {x y : UInt8} (hp : p.length ≠ 2) (h : F.sumOf (p ++ x :: q) = F.sumOf (p ++ y :: q)) : x = y := by
  have h1 := sumOf_inj h
  unfold F.checkN at h1
  have e : F.byte (F.str (p ++ x :: q)) 2 = F.byte (F.str (p ++ y :: q)) 2 := by
    show (p ++ x :: q).getD 2 0 = (p ++ y :: q).getD 2 0
    rw [List.getD_eq_getElem?_getD, List.getD_eq_getElem?_getD]
    by_cases h2 : 2 < p.length
    · rw [List.getElem?_append_left h2, List.getElem?_append_left h2]
    · rw [List.getElem?_append_right (by omega), List.getElem?_append_right (by omega)]
      obtain ⟨k, hk⟩ : ∃ k, 2 - p.length = k + 1 := ⟨2 - p.length - 1, by omega⟩
      rw [hk]
      rfl
  rw [e] at h1
  obtain ⟨b, hb⟩ : ∃ b : UInt8, IntKind.wrap .u8 (IntKind.wrap .u8 (7 * (((F.byte (F.str (p ++ y :: q)) 2).toNat : Nat) : Int)) + 31) = ((b.toNat : Nat) : Int) := ⟨unbyte (.int .u8 _), (unbyte_nat (u8_le _)).symm⟩
  rw [hb] at h1
  have h2 := add_inj_sum (sum_u16 _) (sum_u16 _) h1
  rw [sum_str, sum_str] at h2
  exact fold_turn (by unfold F.u16; omega) h2
end Go.Proofs.Ytgbncncmoiadaaa.Ex
