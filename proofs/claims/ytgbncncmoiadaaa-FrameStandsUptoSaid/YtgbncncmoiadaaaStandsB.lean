/- What is read stands in the bytes. -/
import Derived.Test.YtgbncncmoiadaaaStandsA
namespace Go.Proofs.Ytgbncncmoiadaaa.Ex
open Go
set_option linter.unusedVariables false
/-- One behind the other from here on; e bytes are behind them all. -/
def Chain (d : List UInt8) (e : Nat) : Nat → List F.Fm → Prop
  | a, [] => a + e ≤ d.length
  | a, f :: fs => f.p.length ≤ 64 ∧ ∃ p, a ≤ p ∧ F.here d (F.enc f) p = true ∧ Chain d e (p + (F.enc f).length) fs
theorem Chain.lower {d : List UInt8} {e : Nat} : ∀ {fs : List F.Fm} {a b : Nat}, Chain d e a fs → b ≤ a → Chain d e b fs
  | [], a, b, h, hb => by unfold Chain at *; omega
  | f :: fs, a, b, ⟨h0, p, h1, h2, h3⟩, hb => ⟨h0, p, by omega, h2, h3⟩
theorem pass_drop : ∀ l : List UInt8, ∃ c, c ≤ l.length ∧ F.pass l = l.drop c
  | [] => ⟨0, Nat.le_refl _, rfl⟩
  | b :: l => by
    rw [pass_cons]
    cases b == 253
    · obtain ⟨c, h1, h2⟩ := pass_drop l
      exact ⟨c + 1, Nat.succ_le_succ h1, h2⟩
    · exact ⟨0, Nat.zero_le _, rfl⟩
theorem pass_head : ∀ {l : List UInt8}, F.pass l ≠ [] → ∃ r, F.pass l = 253 :: r
  | [], h => absurd rfl h
  | b :: l, h => by
    rw [pass_cons] at h ⊢
    cases hb : b == 253
    · rw [hb] at h
      exact pass_head h
    · exact ⟨l, by rw [eq_of_beq hb]; rfl⟩
theorem look_good_enc {r : List UInt8} {f : F.Fm} {n : Nat} (h : F.look (253 :: r) = .good f n) : (253 :: r).take n = F.enc f ∧ n = (F.enc f).length ∧ f.p.length ≤ 64 := by
  have hl := look_good_len h
  rw [enc_len]
  by_cases h1 : (253 :: r).length < 2
  · rw [look_stop h1] at h; cases h
  by_cases h2 : 64 < ((253 :: r).getD 1 0).toNat
  · rw [look_long h1 h2] at h; cases h
  by_cases h3 : (253 :: r).length < ((253 :: r).getD 1 0).toNat + 6
  · rw [look_short h1 h2 h3] at h; cases h
  rw [look_end h1 h2 h3] at h
  split at h
  · next hs =>
    simp only [F.Look.good.injEq] at h
    obtain ⟨rfl, rfl⟩ := h
    obtain ⟨b1, r, rfl⟩ : ∃ b r', r = b :: r' := by cases r with | nil => simp at h1 | cons b r' => exact ⟨b, r', rfl⟩
    have g1 : (253 :: b1 :: r).getD 1 0 = b1 := rfl
    rw [g1] at h2 h3 hs hl ⊢
    obtain ⟨b2, b3, r, rfl⟩ : ∃ x y r', r = x :: y :: r' := by
      match r, h3 with
      | [], h3 => simp at h3
      | [x], h3 => simp at h3
      | x :: y :: r', _ => exact ⟨x, y, r', rfl⟩
    have hr : b1.toNat + 2 ≤ r.length := by simp only [List.length_cons] at h3; omega
    have hp : (r.take b1.toNat).length = b1.toNat := by rw [List.length_take]; omega
    have c1 : ((253 :: b1 :: b2 :: b3 :: r).drop 1).take (b1.toNat + 3) = b1 :: b2 :: b3 :: r.take b1.toNat := rfl
    have c2 : ((253 :: b1 :: b2 :: b3 :: r).drop (b1.toNat + 4)).take 2 = (r.drop b1.toNat).take 2 := rfl
    rw [c1, c2] at hs
    refine ⟨?_, ?_, ?_⟩
    · show (253 :: b1 :: b2 :: b3 :: r).take (b1.toNat + 6) = F.enc ⟨b2, b3, r.take b1.toNat⟩
      unfold F.enc
      show 253 :: b1 :: b2 :: b3 :: r.take (b1.toNat + 2) = _
      have hb : UInt8.ofNat (r.take b1.toNat).length = b1 := by rw [hp]; exact UInt8.ofNat_toNat
      rw [hb, hs, List.take_add]
    · show b1.toNat + 6 = (r.take b1.toNat).length + 6
      rw [hp]
    · show (r.take b1.toNat).length ≤ 64
      omega
  · cases h
theorem read_chain (d : List UInt8) : ∀ (k a : Nat), d.length - a < k → a ≤ d.length → Chain d (F.read (d.drop a)).held.length a (F.read (d.drop a)).fs
  | 0, a, h, _ => absurd h (Nat.not_lt_zero _)
  | k + 1, a, h, ha => by
    obtain ⟨c, h1, h2⟩ := pass_drop (d.drop a)
    have hdl : (d.drop a).length = d.length - a := List.length_drop
    rw [List.drop_drop] at h2
    have hpl : (F.pass (d.drop a)).length = d.length - (a + c) := by rw [h2, List.length_drop]
    cases hlk : F.look (F.pass (d.drop a)) with
    | stop =>
      rw [read_stop hlk]
      show a + (F.pass (d.drop a)).length ≤ d.length
      omega
    | wrong =>
      have hw := look_wrong_len hlk
      rw [read_wrong hlk, h2, List.drop_drop]
      exact (read_chain d k (a + c + 1) (by omega) (by omega)).lower (by omega)
    | good f n =>
      have hw := look_good_len hlk
      have hne : F.pass (d.drop a) ≠ [] := by intro e; rw [e] at hw; simp at hw; omega
      obtain ⟨r, hr⟩ := pass_head hne
      rw [hr] at hlk
      obtain ⟨e1, e2, e3⟩ := look_good_enc hlk
      rw [← hr] at hlk e1
      rw [read_good hlk, h2, List.drop_drop]
      refine ⟨e3, a + c, by omega, ?_, ?_⟩
      · unfold F.here
        rw [h2] at e1
        rw [← e2, decide_eq_true (by omega), decide_eq_true e1]
        rfl
      · rw [← e2]
        exact read_chain d k (a + c + n) (by omega) (by omega)
/-- Where one stands behind the ones ahead of it. -/
def F.stand (d : ByteArray) : List F.Fm → Int → Int
  | [], a => a
  | f :: fs, a => F.stand d fs (F.findK d (F.str (F.enc f)) a + ((F.enc f).length : Nat))
theorem stand_snoc (d : ByteArray) (f : F.Fm) : ∀ (fs : List F.Fm) (a : Int), F.stand d (fs ++ [f]) a = F.findK d (F.str (F.enc f)) (F.stand d fs a) + ((F.enc f).length : Nat)
  | [], a => rfl
  | g :: fs, a => stand_snoc d f fs _
theorem unbyte_nat8' (b : UInt8) : unbyte (.int .u8 ((b.toNat : Nat) : Int)) = b := by
  apply UInt8.toNat_inj.1
  have := unbyte_nat (k := ((b.toNat : Nat) : Int)) (by have := b.toNat_lt; omega)
  omega
theorem encS_fm (f : F.Fm) (h : f.p.length ≤ 64) : F.encE ((f.seq.toNat : Nat) : Int) ((f.id.toNat : Nat) : Int) (F.str f.p) = 0 ∧ F.encS ((f.seq.toNat : Nat) : Int) ((f.id.toNat : Nat) : Int) (F.str f.p) = F.str (F.enc f) := by
  have h1 := f.seq.toNat_lt
  have h2 := f.id.toNat_lt
  have e : F.encE ((f.seq.toNat : Nat) : Int) ((f.id.toNat : Nat) : Int) (F.str f.p) = 0 := (if_pos (by omega)).trans (if_pos (by rw [str_size]; exact h))
  refine ⟨e, ?_⟩
  unfold F.encS
  rw [if_pos e]
  have hf : F.fm ((f.seq.toNat : Nat) : Int) ((f.id.toNat : Nat) : Int) (F.str f.p) = f := by
    unfold F.fm
    rw [unbyte_nat8', unbyte_nat8', bl_str]
  rw [hf]
end Go.Proofs.Ytgbncncmoiadaaa.Ex
