/- A frame with a turned byte is wrong, and nothing as long is read of it. -/
import Derived.Test.YtgbncncmoiadaaaEncE
namespace Go.Proofs.Ytgbncncmoiadaaa.Ex
open Go
set_option linter.unusedVariables false
theorem read_fits : ∀ (k : Nat) (l : List UInt8), l.length < k → ∀ g ∈ (F.read l).fs, g.p.length + 6 ≤ l.length
  | 0, l, h => absurd h (Nat.not_lt_zero _)
  | k + 1, l, h => by
    have hp := pass_len l
    intro g hg
    cases hlk : F.look (F.pass l) with
    | stop => rw [read_stop hlk] at hg; cases hg
    | wrong =>
      have hw := look_wrong_len hlk
      have hd : ((F.pass l).drop 1).length = (F.pass l).length - 1 := List.length_drop
      rw [read_wrong hlk] at hg
      have := read_fits k ((F.pass l).drop 1) (by omega) g hg
      omega
    | good f j =>
      have hw := look_good_len hlk
      have hd : ((F.pass l).drop j).length = (F.pass l).length - j := List.length_drop
      rw [read_good hlk] at hg
      rcases List.mem_cons.1 hg with rfl | hg
      · omega
      · have := read_fits k ((F.pass l).drop j) (by omega) g hg
        omega
theorem set_split {α : Type} {l : List α} {n : Nat} {b y : α} (h : l[n]? = some b) : l = l.take n ++ b :: l.drop (n + 1) ∧ l.set n y = l.take n ++ y :: l.drop (n + 1) := by
  have hn := (List.getElem?_eq_some_iff.1 h).1
  have hb := (List.getElem?_eq_some_iff.1 h).2
  refine ⟨?_, List.set_eq_take_append_cons_drop .. |>.trans (if_pos hn)⟩
  rw [← hb, List.getElem_cons_drop, List.take_append_drop]
theorem look_turned {f : F.Fm} (hf : f.p.length ≤ 64) {n : Nat} {b y : UInt8} (hn : n = 2 ∨ 4 ≤ n) (hb : (F.enc f)[n]? = some b) (hy : b ≠ y) : F.look ((F.enc f).set n y) = .wrong := by
  have hl := enc_len f
  have hlen : n < (F.enc f).length := (List.getElem?_eq_some_iff.1 hb).1
  have e2 : ((F.enc f).set n y).getD 1 0 = UInt8.ofNat f.p.length := by
    rw [List.getD_eq_getElem?_getD, List.getElem?_set_ne (by omega)]
    rfl
  have e3 : (((F.enc f).set n y).getD 1 0).toNat = f.p.length := by rw [e2, u8_ofNat (by omega)]
  have el : ((F.enc f).set n y).length = f.p.length + 6 := by rw [List.length_set, hl]
  obtain ⟨M, hM⟩ : ∃ M, M = UInt8.ofNat f.p.length :: f.seq :: f.id :: f.p := ⟨_, rfl⟩
  have hMl : M.length = f.p.length + 3 := by rw [hM]; simp
  have hE : F.enc f = 253 :: (M ++ F.sumOf M) := by rw [hM]; rfl
  obtain ⟨n', rfl⟩ : ∃ n', n = n' + 1 := ⟨n - 1, by omega⟩
  rw [look_end (by omega) (by omega) (by omega), e3]
  refine if_neg ?_
  have hb' : (M ++ F.sumOf M)[n']? = some b := by rw [hE] at hb; simpa using hb
  have d1 : ((F.enc f).set (n' + 1) y).drop 1 = (M ++ F.sumOf M).set n' y := by rw [hE]; rfl
  have d2 : ((F.enc f).set (n' + 1) y).drop (f.p.length + 4) = ((M ++ F.sumOf M).set n' y).drop (f.p.length + 3) := by rw [hE]; rfl
  rw [d1, d2]
  by_cases hc : n' < f.p.length + 3
  · rw [List.set_append_left _ _ (by omega), List.take_left' (by rw [List.length_set, hMl]), List.drop_left' (by rw [List.length_set, hMl]), List.take_of_length_le (by rw [sumOf_len]; omega)]
    rw [List.getElem?_append_left (by omega)] at hb'
    obtain ⟨s1, s2⟩ := set_split (y := y) hb'
    rw [s2]
    intro h
    have h' := h.trans (congrArg F.sumOf s1)
    exact hy (sumOf_turn (by rw [List.length_take]; omega) h').symm
  · rw [List.set_append_right _ _ (by omega), List.take_left' hMl, List.drop_left' hMl]
    rw [List.getElem?_append_right (by omega)] at hb'
    have hk := (List.getElem?_eq_some_iff.1 hb').1
    rw [List.take_of_length_le (by rw [List.length_set, sumOf_len]; omega)]
    intro h
    have h1 := congrArg (fun l => l[n' - M.length]?) h
    rw [hb', List.getElem?_set_self hk] at h1
    exact hy (Option.some.inj h1)
theorem read_turned {f : F.Fm} (hf : f.p.length ≤ 64) {n : Nat} {b y : UInt8} (hn : n = 2 ∨ 4 ≤ n) (hb : (F.enc f)[n]? = some b) (hy : b ≠ y) :
    1 ≤ (F.read ((F.enc f).set n y)).bad ∧ ∀ g ∈ (F.read ((F.enc f).set n y)).fs, g.p.length < f.p.length := by
  have hp : F.pass ((F.enc f).set n y) = (F.enc f).set n y := by
    obtain ⟨n', rfl⟩ : ∃ n', n = n' + 1 := ⟨n - 1, by omega⟩
    rfl
  rw [read_wrong (by rw [hp]; exact look_turned hf hn hb hy), hp]
  refine ⟨Nat.succ_le_succ (Nat.zero_le _), fun g hg => ?_⟩
  have := read_fits _ _ (Nat.lt_succ_self _) g hg
  rw [List.length_drop, List.length_set, enc_len] at this
  omega
end Go.Proofs.Ytgbncncmoiadaaa.Ex
