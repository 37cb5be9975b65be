/- clean: its loop. -/
import Derived.Test.YtgbncncmoiadaaaCleanA
import Derived.Test.YtgbncncmoiadaaaBytes
namespace Go.Proofs.Ytgbncncmoiadaaa.Ex
open Go
set_option linter.unusedVariables false
def F.cleanL (l : List UInt8) : List UInt8 := l.filter (fun b => b != 253)
def F.clean (s : ByteArray) : ByteArray := F.str (F.cleanL (bl s))
theorem cleanL_len (l : List UInt8) : (F.cleanL l).length ≤ l.length := List.length_filter_le _ _
theorem cleanL_take {l : List UInt8} {j : Nat} (h : j < l.length) : F.cleanL (l.take (j + 1)) = F.cleanL (l.take j) ++ (if (l.getD j 0) = 253 then [] else [l.getD j 0]) := by
  have e : l.take (j + 1) = l.take j ++ [l.getD j 0] := by
    rw [List.take_add_one, List.getD_eq_getElem?_getD, List.getElem?_eq_getElem h]
    rfl
  rw [e]
  unfold F.cleanL
  rw [List.filter_append]
  by_cases hc : l.getD j 0 = 253
  · rw [if_pos hc, hc]; rfl
  · rw [if_neg hc]
    congr 1
    exact List.filter_cons_of_pos (by simpa using hc)
theorem u8_253 {b : UInt8} : (((b.toNat : Nat) : Int) = 253) ↔ b = 253 := by
  constructor
  · intro h
    apply UInt8.toNat_inj.1
    show b.toNat = 253
    omega
  · rintro rfl; rfl
theorem clean_step {s : ByteArray} (hs : s.size ≤ 1048576) {j : Nat} (hj : j ≤ s.size) (R : Out)
    (k_more : j < s.size → Out.le ⟨.normal, frClean s (bV 0 (F.cleanL ((bl s).take (j + 1)))) ((j : Int) + 1), bB (F.cleanL ((bl s).take (j + 1))), []⟩ R)
    (k_end : ¬ j < s.size → Out.le ⟨.exit 0, frClean s (bV 0 (F.cleanL ((bl s).take j))) j, bB (F.cleanL ((bl s).take j)), []⟩ R) :
    CodeSpec Try.prog 0 clean_loop (frClean s (bV 0 (F.cleanL ((bl s).take j))) j) (bB (F.cleanL ((bl s).take j))) R := by
  have hb : ∀ h : (j : Int) < (s.size : Int), j < (bl s).length := fun h => by rw [bl_len]; omega
  have get : List.getD (Array.toList (ByteArray.data s)) (Int.toNat (j : Int)) 0 = (bl s).getD j 0 := by rw [Int.toNat_natCast]
  obtain ⟨B, hB⟩ : ∃ B, B = F.cleanL ((bl s).take j) := ⟨_, rfl⟩
  have hBl : B.length ≤ 1048576 := by
    have := cleanL_len ((bl s).take j)
    rw [List.length_take, bl_len] at this
    rw [hB]
    omega
  rw [← hB] at k_end ⊢
  have more : (h : (j : Int) < (s.size : Int)) → Out.le ⟨.normal, frClean s (bV 0 (B ++ (if ((bl s).getD j 0) = 253 then [] else [(bl s).getD j 0]))) ((j : Int) + 1), bB (B ++ (if ((bl s).getD j 0) = 253 then [] else [(bl s).getD j 0])), []⟩ R := fun h => by
    have := k_more (by omega)
    rw [cleanL_take (hb h), ← hB] at this
    exact this
  by_cases hn : B = []
  · rw [hn] at k_end more ⊢
    refine clean_round0 s j 0 ⟨by omega, by omega⟩ hs R (fun h h1 => ?_) (fun h h1 => ?_) (fun h => k_end (by omega))
    · have m := more h
      rw [get] at h1 ⊢
      rw [if_neg (fun e => h1 (u8_253.2 e))] at m
      exact m
    · have m := more h
      rw [get] at h1
      rw [if_pos (u8_253.1 (Decidable.of_not_not h1))] at m
      exact m
  · rw [bV_some hn, bB_some hn] at k_end ⊢
    refine clean_round1 s j 0 B.length (bytesOf (F.str B)) ⟨by omega, by omega⟩ hs hBl (by rw [bytes_len, str_size]) (by simp [bytes_len, str_size]; omega) R (fun h h1 => ?_) (fun h h1 => ?_) (fun h => k_end (by omega))
    · have m := more h
      rw [get] at h1 ⊢
      rw [if_neg (fun e => h1 (u8_253.2 e)), bV_some (by simp), bB_some (by simp), bytes_str, List.length_append] at m
      exact m
    · have m := more h
      rw [get] at h1
      rw [if_pos (u8_253.1 (Decidable.of_not_not h1)), List.append_nil, bV_some hn, bB_some hn] at m
      exact m
theorem clean_rounds {s : ByteArray} (hs : s.size ≤ 1048576) : ∀ (k j : Nat), j ≤ s.size → s.size - j = k →
    LoopSpec Try.prog 0 clean_loop (frClean s (bV 0 (F.cleanL ((bl s).take j))) j) (bB (F.cleanL ((bl s).take j))) ⟨.exit 0, frClean s (bV 0 (F.cleanL (bl s))) s.size, bB (F.cleanL (bl s)), []⟩ := by
  intro k
  induction k with
  | zero =>
    intro j h1 hk
    obtain rfl : j = s.size := by omega
    have e : (bl s).take s.size = bl s := by rw [← bl_len, List.take_length]
    exact .last (clean_step hs (Nat.le_refl _) _ (fun h => absurd h (Nat.lt_irrefl _)) (fun _ => by rw [e]; exact ⟨rfl, rfl, rfl, fun j hj => hj⟩)) (by intro h; cases h)
  | succ k ih =>
    intro j h1 hk
    exact .more (o1 := ⟨.normal, frClean s (bV 0 (F.cleanL ((bl s).take (j + 1)))) ((j : Int) + 1), bB (F.cleanL ((bl s).take (j + 1))), []⟩) (clean_step hs h1 _ (fun _ => ⟨rfl, rfl, rfl, fun j hj => hj⟩) (fun h => absurd (show j < s.size by omega) h)) rfl (ih (j + 1) (by omega) (by omega)) (fun j hj => by cases hj)
theorem clean_told {s : ByteArray} (hs : s.size ≤ 1048576) (hn : F.cleanL (bl s) ≠ []) : CodeSpec Try.prog 0 clean_loopC (frClean s (.slice none 0 0) 0) [] ⟨.exit 0, frClean s (.slice (some ⟨0, 0, none⟩) (F.clean s).size (F.clean s).size) s.size, [.own 5 (bytesOf (F.clean s))], []⟩ := by
  have h := (clean_rounds hs s.size 0 (Nat.zero_le _) (by omega)).code
  have e : (F.cleanL (bl s)).length = (F.clean s).size := (str_size _).symm
  rw [bV_some hn, bB_some hn, e] at h
  exact h
theorem clean_told0 {s : ByteArray} (hs : s.size ≤ 1048576) (hn : F.cleanL (bl s) = []) : CodeSpec Try.prog 0 clean_loopC (frClean s (.slice none 0 0) 0) [] ⟨.exit 0, frClean s (.slice none 0 0) s.size, [], []⟩ := by
  have h := (clean_rounds hs s.size 0 (Nat.zero_le _) (by omega)).code
  rw [hn] at h
  exact h
def cleanLSum (fr : Fr) (hp : Hp) : Out := match fr.get 0 with
  | some (.string s) => ⟨.exit 0, frClean s (.slice (some ⟨0, 0, none⟩) (F.clean s).size (F.clean s).size) s.size, [.own 5 (bytesOf (F.clean s))], []⟩
  | _ => ⟨.ret, fr, [], []⟩
def cleanLSum0 (fr : Fr) (hp : Hp) : Out := match fr.get 0 with
  | some (.string s) => ⟨.exit 0, frClean s (.slice none 0 0) s.size, [], []⟩
  | _ => ⟨.ret, fr, [], []⟩
end Go.Proofs.Ytgbncncmoiadaaa.Ex
