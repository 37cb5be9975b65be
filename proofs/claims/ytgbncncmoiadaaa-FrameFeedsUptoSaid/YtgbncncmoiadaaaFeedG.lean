/- What is read of bytes: the laws. -/
import Derived.Test.YtgbncncmoiadaaaFeedF
namespace Go.Proofs.Ytgbncncmoiadaaa.Ex
open Go
set_option linter.unusedVariables false
theorem go_pass (k : Nat) (l : List UInt8) : F.go k (F.pass l) = F.go k l := by
  cases k with
  | zero => unfold F.go; rw [pass_pass]
  | succ k => unfold F.go; rw [pass_pass]
theorem go_fuel : ∀ (k k' : Nat) (l : List UInt8), l.length < k → l.length < k' → F.go k l = F.go k' l
  | 0, _, l, h, _ => absurd h (Nat.not_lt_zero _)
  | _ + 1, 0, l, _, h => absurd h (Nat.not_lt_zero _)
  | k + 1, k' + 1, l, h, h' => by
    have hp := pass_len l
    cases hlk : F.look (F.pass l) with
    | stop => rw [go_stop hlk, go_stop hlk]
    | wrong =>
      have hw := look_wrong_len hlk
      have hd : ((F.pass l).drop 1).length = (F.pass l).length - 1 := List.length_drop
      rw [go_wrong hlk, go_wrong hlk, go_fuel k k' ((F.pass l).drop 1) (by omega) (by omega)]
    | good f j =>
      have hw := look_good_len hlk
      have hd : ((F.pass l).drop j).length = (F.pass l).length - j := List.length_drop
      rw [go_good hlk, go_good hlk, go_fuel k k' ((F.pass l).drop j) (by omega) (by omega)]
theorem read_of_go {k : Nat} {l : List UInt8} (h : l.length < k) : F.go k l = F.read l := go_fuel _ _ _ h (Nat.lt_succ_self _)
theorem read_pass (l : List UInt8) : F.read (F.pass l) = F.read l := by
  rw [← read_of_go (l := F.pass l) (show (F.pass l).length < l.length + 1 by have := pass_len l; omega), go_pass]
  rfl
theorem read_stop {l : List UInt8} (h : F.look (F.pass l) = .stop) : F.read l = ⟨[], 0, F.pass l⟩ := go_stop h
theorem read_wrong {l : List UInt8} (h : F.look (F.pass l) = .wrong) : F.read l = ⟨(F.read ((F.pass l).drop 1)).fs, (F.read ((F.pass l).drop 1)).bad + 1, (F.read ((F.pass l).drop 1)).held⟩ := by
  have hp := pass_len l
  have hw := look_wrong_len h
  have hd : ((F.pass l).drop 1).length = (F.pass l).length - 1 := List.length_drop
  have e := go_wrong (k := l.length) h
  rw [read_of_go (k := l.length) (l := (F.pass l).drop 1) (by omega)] at e
  exact e
theorem read_good {l : List UInt8} {f : F.Fm} {n : Nat} (h : F.look (F.pass l) = .good f n) : F.read l = ⟨f :: (F.read ((F.pass l).drop n)).fs, (F.read ((F.pass l).drop n)).bad, (F.read ((F.pass l).drop n)).held⟩ := by
  have hp := pass_len l
  have hw := look_good_len h
  have hd : ((F.pass l).drop n).length = (F.pass l).length - n := List.length_drop
  have e := go_good (k := l.length) h
  rw [read_of_go (k := l.length) (l := (F.pass l).drop n) (by omega)] at e
  exact e
theorem pass_append : ∀ (l m : List UInt8), F.pass (l ++ m) = if F.pass l = [] then F.pass m else F.pass l ++ m
  | [], m => by simp [F.pass]
  | b :: l, m => by
    rw [List.cons_append, pass_cons, pass_cons]
    cases h : b == 253
    · exact pass_append l m
    · exact (if_neg (List.cons_ne_nil b l)).symm
theorem getD_append {l m : List UInt8} {i : Nat} (h : i < l.length) : (l ++ m).getD i 0 = l.getD i 0 := by
  rw [List.getD_eq_getElem?_getD, List.getD_eq_getElem?_getD, List.getElem?_append_left h]
theorem cut_append {l m : List UInt8} {i n : Nat} (h : i + n ≤ l.length) : ((l ++ m).drop i).take n = (l.drop i).take n := by
  rw [List.drop_append_of_le_length (by omega), List.take_append_of_le_length (by rw [List.length_drop]; omega)]
theorem look_append {l : List UInt8} (m : List UInt8) (h : F.look l ≠ .stop) : F.look (l ++ m) = F.look l := by
  by_cases h1 : l.length < 2
  · exact absurd (look_stop h1) h
  have e1 : (l ++ m).getD 1 0 = l.getD 1 0 := getD_append (by omega)
  have hl : (l ++ m).length = l.length + m.length := List.length_append
  by_cases h2 : 64 < (l.getD 1 0).toNat
  · rw [look_long h1 h2, look_long (by omega) (by rw [e1]; exact h2)]
  by_cases h3 : l.length < (l.getD 1 0).toNat + 6
  · exact absurd (look_short h1 h2 h3) h
  rw [look_end h1 h2 h3, look_end (by omega) (by rw [e1]; exact h2) (by rw [e1]; omega), e1, cut_append (by omega), cut_append (by omega), cut_append (by omega), getD_append (by omega), getD_append (by omega)]
/-- What is held, and then more. -/
theorem read_append : ∀ (k : Nat) (l m : List UInt8), l.length < k →
    F.read (l ++ m) = ⟨(F.read l).fs ++ (F.read ((F.read l).held ++ m)).fs, (F.read l).bad + (F.read ((F.read l).held ++ m)).bad, (F.read ((F.read l).held ++ m)).held⟩
  | 0, l, m, h => absurd h (Nat.not_lt_zero _)
  | k + 1, l, m, h => by
    have hp := pass_len l
    cases hlk : F.look (F.pass l) with
    | stop =>
      rw [read_stop hlk]
      show F.read (l ++ m) = ⟨[] ++ (F.read (F.pass l ++ m)).fs, 0 + (F.read (F.pass l ++ m)).bad, (F.read (F.pass l ++ m)).held⟩
      rw [List.nil_append, Nat.zero_add]
      show F.read (l ++ m) = F.read (F.pass l ++ m)
      rw [← read_pass (l ++ m), pass_append]
      split
      · next e => rw [e, List.nil_append, read_pass]
      · rfl
    | wrong =>
      have hw := look_wrong_len hlk
      have hd : ((F.pass l).drop 1).length = (F.pass l).length - 1 := List.length_drop
      have hne : F.pass l ≠ [] := by intro e; rw [e] at hw; simp at hw
      have e1 : F.pass (l ++ m) = F.pass l ++ m := by rw [pass_append, if_neg hne]
      rw [read_wrong hlk, read_wrong (l := l ++ m) (by rw [e1, look_append _ (by rw [hlk]; intro e; cases e)]; exact hlk), e1, List.drop_append_of_le_length (by omega), read_append k ((F.pass l).drop 1) m (by omega)]
      show F.Got.mk _ _ _ = F.Got.mk _ _ _
      rw [Nat.add_right_comm]
    | good f j =>
      have hw := look_good_len hlk
      have hd : ((F.pass l).drop j).length = (F.pass l).length - j := List.length_drop
      have hne : F.pass l ≠ [] := by intro e; rw [e] at hw; simp at hw; omega
      have e1 : F.pass (l ++ m) = F.pass l ++ m := by rw [pass_append, if_neg hne]
      rw [read_good hlk, read_good (l := l ++ m) (by rw [e1, look_append _ (by rw [hlk]; intro e; cases e)]; exact hlk), e1, List.drop_append_of_le_length (by omega), read_append k ((F.pass l).drop j) m (by omega)]
      rfl
theorem read_app (l m : List UInt8) : F.read (l ++ m) = ⟨(F.read l).fs ++ (F.read ((F.read l).held ++ m)).fs, (F.read l).bad + (F.read ((F.read l).held ++ m)).bad, (F.read ((F.read l).held ++ m)).held⟩ := read_append _ l m (Nat.lt_succ_self _)
end Go.Proofs.Ytgbncncmoiadaaa.Ex
