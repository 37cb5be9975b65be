/- Half is four steps. -/
import Derived.Test.YtgbncncmoiadaaaCrcB
namespace Go.Proofs.Ytgbncncmoiadaaa.Ex
open Go
set_option linter.unusedVariables false
theorem xor_split (q r : Nat) (hr : r < 16) : (16 * q) ^^^ r = 16 * q + r := by
  have e1 : ((16 * q) ^^^ r) / 2 ^ 4 = q := by
    rw [Nat.xor_div_two_pow]
    have h1 : 16 * q / 2 ^ 4 = q := by omega
    have h2 : r / 2 ^ 4 = 0 := by omega
    rw [h1, h2, Nat.xor_zero]
  have e2 : ((16 * q) ^^^ r) % 2 ^ 4 = r := by
    rw [Nat.xor_mod_two_pow]
    have h1 : 16 * q % 2 ^ 4 = 0 := by omega
    have h2 : r % 2 ^ 4 = r := by omega
    rw [h1, h2, Nat.zero_xor]
  have := Nat.div_add_mod ((16 * q) ^^^ r) (2 ^ 4)
  rw [e1, e2] at this
  omega
theorem tab_steps : ∀ r : Nat, r < 16 → F.tab (r : Int) = (stepN (stepN (stepN (stepN r))) : Nat) := by decide
theorem stepN4 (q r : Nat) : stepN (stepN (stepN (stepN ((16 * q) ^^^ r)))) = q ^^^ stepN (stepN (stepN (stepN r))) := by
  have h1 : 16 * q = 2 * (2 * (2 * (2 * q))) := by omega
  rw [h1, stepN_xor, stepN_xor, stepN_xor, stepN_xor]
theorem steps4_nat {n : Nat} (h : n < 65536) : F.steps 4 (n : Int) = (stepN (stepN (stepN (stepN n))) : Nat) := by
  show F.step1 (F.step1 (F.step1 (F.step1 (n : Int)))) = _
  rw [step1_nat h, step1_nat (stepN_lt h), step1_nat (stepN_lt (stepN_lt h)), step1_nat (stepN_lt (stepN_lt (stepN_lt h)))]
theorem half_steps {c : Int} (h : F.u16 c) : F.half c = F.steps 4 c := by
  obtain ⟨n, rfl⟩ := Int.eq_ofNat_of_zero_le h.1
  have hn : n < 65536 := by have := h.2; omega
  rw [steps4_nat hn]
  have e : n = (16 * (n / 16)) ^^^ (n % 16) := by rw [xor_split _ _ (by omega)]; omega
  have e1 : stepN (stepN (stepN (stepN n))) = (n / 16) ^^^ stepN (stepN (stepN (stepN (n % 16)))) := by
    have := stepN4 (n / 16) (n % 16)
    rw [← e] at this
    exact this
  rw [e1]
  unfold F.half
  have hc : ((n : Int) % 16) = ((n % 16 : Nat) : Int) := by omega
  have hd : ((n : Int) / 16) = ((n / 16 : Nat) : Int) := by omega
  rw [hc, hd, tab_steps _ (by omega)]
  have hs : ∀ m : Nat, m < 65536 → stepN m < 65536 := fun m => stepN_lt
  exact bxor_nat (by omega) (hs _ (hs _ (hs _ (hs _ (by omega)))))
/-- A byte added to a sum. -/
def F.add (c b : Int) : Int := F.steps 8 (F.bxor .u16 c b)
theorem add_u16 (c b : Int) : F.u16 (F.add c b) := steps_u16 8 (bxor_u16 c b)
theorem half_half (c b : Int) : F.half (F.half (F.bxor .u16 c b)) = F.add c b := by
  have h := bxor_u16 c b
  rw [half_steps h, half_steps (steps_u16 4 h)]
  rfl
def halfSum (args : List Value) (hp : Hp) : Res := match args with
  | [.int _ c] => ⟨.int .u16 (F.half c), [], []⟩
  | _ => ⟨undef, [], []⟩
end Go.Proofs.Ytgbncncmoiadaaa.Ex
