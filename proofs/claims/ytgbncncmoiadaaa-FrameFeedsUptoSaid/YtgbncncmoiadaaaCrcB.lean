/- The sums' bytes: the table's half is four steps of the reference's. -/
import Derived.Test.YtgbncncmoiadaaaCrcA
import Derived.OpenShut
namespace Go.Proofs.Ytgbncncmoiadaaa.Ex
open Go
set_option linter.unusedVariables false
def F.tab (r : Int) : Int := ([0, 4225, 8450, 12675, 16900, 21125, 25350, 29575, 33800, 38025, 42250, 46475, 50700, 54925, 59150, 63375] : List Int).getD r.toNat 0
def F.half (c : Int) : Int := F.bxor .u16 (c / 16) (F.tab (c % 16))
def F.step1 (c : Int) : Int := if c % 2 = 1 then F.bxor .u16 (c / 2) 33800 else c / 2
def F.steps : Nat → Int → Int
  | 0, c => c
  | n + 1, c => F.steps n (F.step1 c)
def F.u16 (c : Int) : Prop := 0 ≤ c ∧ c ≤ 65535
theorem u16_wrap (n : Int) : IntKind.u16.wrap n = n % 65536 := by simp [IntKind.wrap, IntKind.bits, IntKind.signed]
theorem bxor_u16 (a b : Int) : F.u16 (F.bxor .u16 a b) := by
  unfold F.bxor F.u16
  rw [u16_wrap]
  omega
theorem bxor_nat {a b : Nat} (ha : a < 65536) (hb : b < 65536) : F.bxor .u16 a b = ((a ^^^ b : Nat) : Int) := by
  have hx : a ^^^ b < 2 ^ 16 := Nat.xor_lt_two_pow (by omega) (by omega)
  unfold F.bxor
  have e : IntKind.u16.bits = 16 := rfl
  rw [e, u16_wrap, BitVec.toNat_xor, BitVec.ofInt_natCast, BitVec.ofInt_natCast, BitVec.toNat_ofNat, BitVec.toNat_ofNat, Nat.mod_eq_of_lt (by omega), Nat.mod_eq_of_lt (by omega)]
  omega
theorem band_15 {c : Int} (h : F.u16 c) : F.band .u16 c 15 = c % 16 := by
  obtain ⟨n, rfl⟩ := Int.eq_ofNat_of_zero_le h.1
  have hn : n < 65536 := by have := h.2; omega
  unfold F.band
  have e : IntKind.u16.bits = 16 := rfl
  have e15 : (15 : Int) = ((15 : Nat) : Int) := rfl
  rw [e, u16_wrap, BitVec.toNat_and, e15, BitVec.ofInt_natCast, BitVec.ofInt_natCast, BitVec.toNat_ofNat, BitVec.toNat_ofNat, Nat.mod_eq_of_lt (by omega)]
  have e16 : (15 % 2 ^ 16 : Nat) = 2 ^ 4 - 1 := by decide
  rw [e16, Nat.and_two_pow_sub_one_eq_mod]
  omega
theorem half_told {c : Int} (h : 0 ≤ c ∧ c ≤ 65535) : CallSpec Try.prog 34 [.int .u16 c] [] ⟨.int .u16 (F.half c), [], []⟩ := by
  have hb := band_15 h
  have hr : ∀ {r : Int}, c % 16 = r → Value.int .u16 (F.band .u16 c 15) = .int .u16 r := fun h => by rw [hb, h]
  have fin : ∀ {r t : Int}, c % 16 = r → F.tab r = t → Res.le ⟨.int .u16 (F.bxor .u16 (c / 16) t), [], []⟩ ⟨.int .u16 (F.half c), [], []⟩ := fun h1 h2 => by
    unfold F.half
    rw [h1, h2]
    exact ⟨rfl, rfl, fun j hj => hj⟩
  have cs : c % 16 = 0 ∨ c % 16 = 1 ∨ c % 16 = 2 ∨ c % 16 = 3 ∨ c % 16 = 4 ∨ c % 16 = 5 ∨ c % 16 = 6 ∨ c % 16 = 7 ∨ c % 16 = 8 ∨ c % 16 = 9 ∨ c % 16 = 10 ∨ c % 16 = 11 ∨ c % 16 = 12 ∨ c % 16 = 13 ∨ c % 16 = 14 ∨ c % 16 = 15 := by omega
  rcases cs with k | k | k | k | k | k | k | k | k | k | k | k | k | k | k | k
  · exact half0 c h (hr k) _ (fin k rfl)
  · exact half1 c h (hr k) _ (fin k rfl)
  · exact half2 c h (hr k) _ (fin k rfl)
  · exact half3 c h (hr k) _ (fin k rfl)
  · exact half4 c h (hr k) _ (fin k rfl)
  · exact half5 c h (hr k) _ (fin k rfl)
  · exact half6 c h (hr k) _ (fin k rfl)
  · exact half7 c h (hr k) _ (fin k rfl)
  · exact half8 c h (hr k) _ (fin k rfl)
  · exact half9 c h (hr k) _ (fin k rfl)
  · exact half10 c h (hr k) _ (fin k rfl)
  · exact half11 c h (hr k) _ (fin k rfl)
  · exact half12 c h (hr k) _ (fin k rfl)
  · exact half13 c h (hr k) _ (fin k rfl)
  · exact half14 c h (hr k) _ (fin k rfl)
  · exact half15 c h (hr k) _ (fin k rfl)
theorem step1_u16 {c : Int} (h : F.u16 c) : F.u16 (F.step1 c) := by
  unfold F.step1
  split
  · exact bxor_u16 _ _
  · unfold F.u16 at *; omega
theorem steps_u16 : ∀ (n : Nat) {c : Int}, F.u16 c → F.u16 (F.steps n c)
  | 0, _, h => h
  | n + 1, _, h => steps_u16 n (step1_u16 h)
theorem radd_rounds : ∀ (k : Nat) (i c : Int), F.u16 c → 0 ≤ i → i ≤ 8 → 8 - i = k → LoopSpec Try.prog 0 radd_loop (frRadd c i) [] ⟨.exit 0, frRadd (F.steps k c) 8, [], []⟩
  | 0, i, c, hc, h0, h1, hk => by
    have : i = 8 := by omega
    subst this
    refine .last (radd_round c 8 hc ⟨by omega, by omega⟩ _ (fun h => absurd h (by omega)) (fun h => absurd h (by omega)) (fun _ => ⟨rfl, rfl, rfl, fun j hj => hj⟩)) (by intro h; cases h)
  | k + 1, i, c, hc, h0, h1, hk => by
    refine .more (o1 := ⟨.normal, frRadd (F.step1 c) (i + 1), [], []⟩) (radd_round c i hc ⟨h0, h1⟩ _ (fun _ h => ⟨rfl, by unfold F.step1; rw [if_pos h]; rfl, rfl, fun j hj => hj⟩) (fun _ h => ⟨rfl, by unfold F.step1; rw [if_neg h]; rfl, rfl, fun j hj => hj⟩) (fun h => absurd (show i < 8 by omega) h)) rfl
      (radd_rounds k (i + 1) (F.step1 c) (step1_u16 hc) (by omega) (by omega) (by omega)) (fun j hj => by cases hj)
def raddSum (fr : Fr) (hp : Hp) : Out := match fr.get 0 with
  | some (.int _ c) => ⟨.exit 0, frRadd (F.steps 8 c) 8, [], []⟩
  | _ => ⟨.ret, fr, [], []⟩
theorem radd_told {c : Int} (h : F.u16 c) : CodeSpec Try.prog 0 radd_loopC (frRadd c 0) [] ⟨.exit 0, frRadd (F.steps 8 c) 8, [], []⟩ := (radd_rounds 8 0 c h (by omega) (by omega) (by omega)).code
/-- One step of a number, among the natural ones. -/
def stepN (n : Nat) : Nat := if n % 2 = 1 then (n / 2) ^^^ 33800 else n / 2
theorem step1_nat {n : Nat} (h : n < 65536) : F.step1 (n : Int) = (stepN n : Nat) := by
  unfold F.step1 stepN
  by_cases k : n % 2 = 1
  · rw [if_pos (by omega), if_pos k]
    have e : ((n : Int) / 2) = ((n / 2 : Nat) : Int) := by omega
    rw [e]
    exact bxor_nat (b := 33800) (by omega) (by omega)
  · rw [if_neg (by omega), if_neg k]; omega
theorem stepN_lt {n : Nat} (h : n < 65536) : stepN n < 65536 := by
  unfold stepN
  split
  · exact Nat.xor_lt_two_pow (n := 16) (by omega) (by omega)
  · omega
theorem stepN_xor (h y : Nat) : stepN ((2 * h) ^^^ y) = h ^^^ stepN y := by
  have e1 : ((2 * h) ^^^ y) % 2 = y % 2 := by
    have := Nat.xor_mod_two_pow (a := 2 * h) (b := y) (n := 1)
    rw [Nat.pow_one] at this
    rw [this]
    have : 2 * h % 2 = 0 := by omega
    rw [this, Nat.zero_xor]
  have e2 : ((2 * h) ^^^ y) / 2 = h ^^^ (y / 2) := by
    have := Nat.xor_div_two_pow (a := 2 * h) (b := y) (n := 1)
    rw [Nat.pow_one] at this
    rw [this]
    have : 2 * h / 2 = h := by omega
    rw [this]
  unfold stepN
  rw [e1, e2]
  split
  · rw [Nat.xor_assoc]
  · rfl
end Go.Proofs.Ytgbncncmoiadaaa.Ex
