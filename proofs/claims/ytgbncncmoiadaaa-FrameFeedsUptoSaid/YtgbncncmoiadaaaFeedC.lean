/- Feed's loop. -/
import Derived.Test.YtgbncncmoiadaaaFeedB
namespace Go.Proofs.Ytgbncncmoiadaaa.Ex
open Go
set_option linter.unusedVariables false
/-- The byte behind the first one. -/
def F.second (s : ByteArray) : Nat := ((F.pass (bl s)).getD 1 0).toNat
theorem u8_255 (b : UInt8) : b.toNat ≤ 255 := by have := b.toNat_lt; omega
theorem wrap_u8_nat (b : UInt8) : IntKind.i64.wrap ((b.toNat : Nat) : Int) = ((b.toNat : Nat) : Int) := Go.IntWalk.i64_in _ (by have := b.toNat_lt; omega)
theorem getD_take {l : List UInt8} {i n : Nat} (h : i < n) : (l.take n).getD i 0 = l.getD i 0 := by
  rw [List.getD_eq_getElem?_getD, List.getD_eq_getElem?_getD, List.getElem?_take, if_pos h]
theorem byte_cut {a : ByteArray} {i n : Nat} (h : i < n) : List.getD (Array.toList (ByteArray.data (a.extract 0 n))) i 0 = (bl a).getD i 0 := by
  show (bl (a.extract 0 n)).getD i 0 = _
  rw [bl_cut, List.drop_zero, getD_take h]
theorem from_str (a : ByteArray) (n : Nat) : F.from a (n : Int) = F.str ((bl a).drop n) := rfl
/-- The parts of a frame, as the round cuts them. -/
theorem good_parts {a : ByteArray} {n : Nat} (hn : n + 6 ≤ a.size) :
    [Value.int .i64 (IntKind.wrap .i64 ((UInt8.toNat (List.getD (Array.toList (ByteArray.data (a.extract 0 (Int.toNat (4 + (n : Int) + 2))))) 2 0) : Nat) : Int)), Value.int .i64 (IntKind.wrap .i64 ((UInt8.toNat (List.getD (Array.toList (ByteArray.data (a.extract 0 (Int.toNat (4 + (n : Int) + 2))))) 3 0) : Nat) : Int)), Value.string ((a.extract 0 (Int.toNat (4 + (n : Int) + 2))).extract 4 (Int.toNat (4 + (n : Int))))] =
      F.Fm.cells ⟨(bl a).getD 2 0, (bl a).getD 3 0, ((bl a).drop 4).take n⟩ := by
  have e1 : Int.toNat (4 + (n : Int) + 2) = n + 6 := by omega
  have e2 : Int.toNat (4 + (n : Int)) = n + 4 := by omega
  rw [e1, e2, wrap_u8_nat, wrap_u8_nat, byte_cut (by omega), byte_cut (by omega)]
  have h3 : (a.extract 0 (n + 6)).extract 4 (n + 4) = F.str (((bl a).drop 4).take n) := by
    apply str_inj
    rw [bl_cut, bl_cut, List.drop_zero, List.take_take, List.drop_take, show min (n + 4) (n + 6) - 4 = n from by omega, bl_str]
  rw [h3]
  rfl
theorem good_rest {a : ByteArray} {n : Nat} (hn : n + 6 ≤ a.size) : F.from a ((ByteArray.size (a.extract 0 (Int.toNat (4 + (n : Int) + 2))) : Nat) : Int) = F.from a ((n + 6 : Nat) : Int) := by
  have e1 : Int.toNat (4 + (n : Int) + 2) = n + 6 := by omega
  rw [e1, ByteArray.size_extract, Nat.min_eq_left hn, Nat.sub_zero]
theorem not_iff_false {b : Bool} (h : ¬ ((!b) = true)) : b = true := by cases b <;> simp_all
theorem seek_len (s : ByteArray) : (F.seek s).size = (F.pass (bl s)).length := by rw [← bl_len]; rfl
theorem has_not {s : ByteArray} (h : ¬ F.has s = true) : F.pass (bl s) = [] := by
  unfold F.has at h
  cases hq : F.pass (bl s) with
  | nil => rfl
  | cons => rw [hq] at h; exact absurd rfl h
section
variable {a : ByteArray}
theorem bl_size : (bl a).length = a.size := bl_len a
theorem lookA_stop (h : (a.size : Int) < 2) : F.look (bl a) = .stop := look_stop (by rw [bl_size]; (try simp only [bl]); omega)
theorem lookA_long (h1 : ¬ (a.size : Int) < 2) (h2 : ((UInt8.toNat (List.getD (Array.toList (ByteArray.data a)) 1 0) : Nat) : Int) > 64) : F.look (bl a) = .wrong :=
  look_long (by rw [bl_size]; (try simp only [bl]); omega) (by (try simp only [bl]); omega)
theorem lookA_short (h1 : ¬ (a.size : Int) < 2) (h2 : ¬ ((UInt8.toNat (List.getD (Array.toList (ByteArray.data a)) 1 0) : Nat) : Int) > 64)
    (h3 : (a.size : Int) < 4 + ((UInt8.toNat (List.getD (Array.toList (ByteArray.data a)) 1 0) : Nat) : Int) + 2) : F.look (bl a) = .stop :=
  look_short (by rw [bl_size]; (try simp only [bl]); omega) (by (try simp only [bl]); omega) (by rw [bl_size]; (try simp only [bl]); omega)
theorem lookA_end (h1 : ¬ (a.size : Int) < 2) (h2 : ¬ ((UInt8.toNat (List.getD (Array.toList (ByteArray.data a)) 1 0) : Nat) : Int) > 64)
    (h3 : ¬ (a.size : Int) < 4 + ((UInt8.toNat (List.getD (Array.toList (ByteArray.data a)) 1 0) : Nat) : Int) + 2) :
    F.look (bl a) = if F.sumOf (((bl a).drop 1).take (((bl a).getD 1 0).toNat + 3)) = ((bl a).drop (((bl a).getD 1 0).toNat + 4)).take 2 then .good ⟨(bl a).getD 2 0, (bl a).getD 3 0, ((bl a).drop 4).take ((bl a).getD 1 0).toNat⟩ (((bl a).getD 1 0).toNat + 6) else .wrong :=
  look_end (by rw [bl_size]; (try simp only [bl]); omega) (by (try simp only [bl]); omega) (by rw [bl_size]; (try simp only [bl]); omega)
theorem lookA_size (h3 : ¬ (a.size : Int) < 4 + ((UInt8.toNat (List.getD (Array.toList (ByteArray.data a)) 1 0) : Nat) : Int) + 2) : UInt8.toNat (List.getD (Array.toList (ByteArray.data a)) 1 0) + 6 ≤ a.size := by omega
end
theorem two_blocks {f : List Value → List Value} {x x' : ByteArray} {y y' : List Value} {bad : Int} (h : x = x') (g : y = y') : [Blk.own 51 [Value.string x, Value.int .i64 bad], Blk.own 23 (f y)] = [Blk.own 51 [Value.string x', Value.int .i64 bad], Blk.own 23 (f y')] := by
  subst h g; rfl
theorem feed_step {s : ByteArray} {bad : Int} {n : Nat} {cs : List Value} (hs : s.size ≤ 9223372036854775000) (hb : 0 ≤ bad ∧ bad ≤ 65535) (hn : n ≤ 4398046510000) (hl : cs.length = n * 3) (R : Out)
    (k_stop : F.look (bl (F.seek s)) = .stop → Out.le ⟨.exit 0, frFeed n, [rdB (F.seek s) bad, .own 23 cs], [0]⟩ R)
    (k_wrong : F.look (bl (F.seek s)) = .wrong → Out.le ⟨.normal, frFeed n, [rdB (F.from (F.seek s) 1) (F.more bad), .own 23 cs], [0, 0, 0]⟩ R)
    (k_good : ∀ f k, F.look (bl (F.seek s)) = .good f k → Out.le ⟨.normal, frFeed (n + 1), [rdB (F.from (F.seek s) ((k : Nat) : Int)) bad, .own 23 (cs ++ f.cells)], [0, 0]⟩ R) : CodeSpec Try.prog 1 feed_loop (frFeed n) [rdB s bad, .own 23 cs] R := by
  apply feed_round s bad n cs hs hb (by omega) hl (by simp; omega) (seek_size s) (has_size s) (u8_255 _)
  case k_ptt => exact fun h0 h1 => k_stop (lookA_stop h1)
  case k_ptft => exact fun h0 h1 h2 => k_wrong (lookA_long h1 h2)
  case k_ptfft => exact fun h0 h1 h2 h3 => k_stop (lookA_short h1 h2 h3)
  case k_ptffft =>
    intro h0 h1 h2 h3 h4
    have h5 := same_test (lookA_size h3)
    refine k_wrong ((lookA_end h1 h2 h3).trans (if_neg fun h6 => ?_))
    rw [decide_eq_true h6] at h5
    exact absurd (h4.symm.trans (congrArg not h5)) (by decide)
  case k_ptffff =>
    intro h0 h1 h2 h3 h4
    have hs6 := lookA_size h3
    have h6 := of_decide_eq_true ((not_iff_false h4).symm.trans (same_test hs6)).symm
    obtain ⟨a1, a2, a3, a4⟩ := k_good _ _ ((lookA_end h1 h2 h3).trans (if_pos h6))
    refine ⟨a1, a2, Eq.trans ?_ a3, a4⟩
    exact two_blocks (f := fun y => cs ++ y) (good_rest hs6) (good_parts hs6)
  case k_pf =>
    intro h0
    exact k_stop (by rw [seek_bl, has_not h0]; rfl)
theorem feed_step0 {s : ByteArray} {bad : Int} (hs : s.size ≤ 9223372036854775000) (hb : 0 ≤ bad ∧ bad ≤ 65535) (R : Out)
    (k_stop : F.look (bl (F.seek s)) = .stop → Out.le ⟨.exit 0, frFeed0, [rdB (F.seek s) bad], [0]⟩ R)
    (k_wrong : F.look (bl (F.seek s)) = .wrong → Out.le ⟨.normal, frFeed0, [rdB (F.from (F.seek s) 1) (F.more bad)], [0, 0, 0]⟩ R)
    (k_good : ∀ f k, F.look (bl (F.seek s)) = .good f k → Out.le ⟨.normal, frFeed 1, [rdB (F.from (F.seek s) ((k : Nat) : Int)) bad, .own 23 f.cells], [0, 0]⟩ R) : CodeSpec Try.prog 1 feed_loop frFeed0 [rdB s bad] R := by
  apply feed_round0 s bad hs hb (seek_size s) (has_size s) (u8_255 _)
  case k_ptt => exact fun h0 h1 => k_stop (lookA_stop h1)
  case k_ptft => exact fun h0 h1 h2 => k_wrong (lookA_long h1 h2)
  case k_ptfft => exact fun h0 h1 h2 h3 => k_stop (lookA_short h1 h2 h3)
  case k_ptffft =>
    intro h0 h1 h2 h3 h4
    have h5 := same_test (lookA_size h3)
    refine k_wrong ((lookA_end h1 h2 h3).trans (if_neg fun h6 => ?_))
    rw [decide_eq_true h6] at h5
    exact absurd (h4.symm.trans (congrArg not h5)) (by decide)
  case k_ptffff =>
    intro h0 h1 h2 h3 h4
    have hs6 := lookA_size h3
    have h6 := of_decide_eq_true ((not_iff_false h4).symm.trans (same_test hs6)).symm
    obtain ⟨a1, a2, a3, a4⟩ := k_good _ _ ((lookA_end h1 h2 h3).trans (if_pos h6))
    refine ⟨a1, a2, Eq.trans ?_ a3, a4⟩
    exact two_blocks (f := fun y => y) (good_rest hs6) (good_parts hs6)
  case k_pf =>
    intro h0
    exact k_stop (by rw [seek_bl, has_not h0]; rfl)
end Go.Proofs.Ytgbncncmoiadaaa.Ex
