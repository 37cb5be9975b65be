/- FrameCuts: its loop. -/
import Derived.Test.YtgbncncmoiadaaaCutsA
namespace Go.Proofs.Ytgbncncmoiadaaa.Ex
open Go
set_option linter.unusedVariables false
/-- What is read of the first bytes. -/
def F.upTo (d : ByteArray) (j : Nat) : F.Got := F.read ((bl d).take j)
def F.heldTo (d : ByteArray) (j : Nat) : ByteArray := F.str (F.upTo d j).held
def F.badTo (d : ByteArray) (j : Nat) : Int := F.least ((F.upTo d j).bad : Nat)
/-- The next byte, behind what is held. -/
def F.next (d : ByteArray) (j : Nat) : ByteArray := F.heldTo d j ++ ByteArray.extract d (Int.toNat (j : Int)) (Int.toNat ((j : Int) + 1))
theorem next_bl (d : ByteArray) (j : Nat) : bl (F.next d j) = (F.upTo d j).held ++ ((bl d).drop j).take 1 := by
  unfold F.next F.heldTo
  rw [bl_append, bl_str, bl_cut, show Int.toNat ((j : Int) + 1) = j + 1 from by omega, Int.toNat_natCast, List.drop_take, show j + 1 - j = 1 from by omega]
theorem upTo_succ (d : ByteArray) (j : Nat) : F.upTo d (j + 1) = ⟨(F.upTo d j).fs ++ (F.read (bl (F.next d j))).fs, (F.upTo d j).bad + (F.read (bl (F.next d j))).bad, (F.read (bl (F.next d j))).held⟩ := by
  rw [next_bl]
  show F.read ((bl d).take (j + 1)) = _
  rw [List.take_add, read_app]
  rfl
theorem least_add (a b : Nat) : F.least (F.least ((a : Nat) : Int) + ((b : Nat) : Int)) = F.least ((a + b : Nat) : Int) := by
  unfold F.least
  split <;> split <;> split <;> omega
theorem heldTo_succ (d : ByteArray) (j : Nat) : F.held (F.next d j) = F.heldTo d (j + 1) := by
  unfold F.held F.heldTo
  rw [upTo_succ]
theorem badTo_succ (d : ByteArray) (j : Nat) : F.badOf (F.next d j) (F.badTo d j) = F.badTo d (j + 1) := by
  unfold F.badOf F.badTo
  rw [least_add, upTo_succ]
theorem heldTo_size (d : ByteArray) (j : Nat) : (F.heldTo d j).size ≤ 69 := by
  unfold F.heldTo
  rw [str_size]
  exact (read_held _).1
theorem badTo_fit (d : ByteArray) (j : Nat) : 0 ≤ F.badTo d j ∧ F.badTo d j ≤ 65535 := by
  unfold F.badTo F.least
  split <;> omega
theorem upTo_all (d : ByteArray) : F.upTo d d.size = F.read (bl d) := by
  unfold F.upTo
  rw [← bl_len, List.take_length]
theorem upTo_prefix (d : ByteArray) (j : Nat) : ∃ m, (F.read (bl d)).fs = (F.upTo d j).fs ++ m := by
  have := read_app ((bl d).take j) ((bl d).drop j)
  rw [List.take_append_drop] at this
  rw [this]
  exact ⟨_, rfl⟩
theorem count_out (s : ByteArray) : 0 + F.count s * 3 ≤ List.length (F.out s) := by
  unfold F.count F.out
  rw [cells_length]
  omega
theorem out_cut (s : ByteArray) : List.take (F.count s * 3) (List.drop 0 (F.out s)) = F.cells (F.read (bl s)).fs := by
  rw [List.drop_zero]
  exact List.take_of_length_le (by show (F.cells _).length ≤ _; rw [cells_length]; exact Nat.le_refl _)
theorem cells_append (a b : List F.Fm) : F.cells (a ++ b) = F.cells a ++ F.cells b := List.flatMap_append
theorem fs_len (d : ByteArray) (j : Nat) : (F.upTo d j).fs.length ≤ d.size := by
  have := (read_held ((bl d).take j)).2.2
  rw [List.length_take, bl_len] at this
  unfold F.upTo
  omega
theorem cuts_rounds0 {r d : ByteArray} {rbad : Int} (hd : d.size ≤ 1048576) (h0 : (F.read (bl d)).fs = []) : ∀ (k j : Nat), j ≤ d.size → d.size - j = k →
    LoopSpec Try.prog 0 cuts_loop (frCuts d nilV nilV j) [rdB r rbad, rdB (F.heldTo d j) (F.badTo d j)] ⟨.exit 0, frCuts d nilV nilV d.size, [rdB r rbad, rdB (F.heldTo d d.size) (F.badTo d d.size)], []⟩ := by
  have hnil : ∀ j, (F.upTo d j).fs = [] := fun j => by
    obtain ⟨m, hm⟩ := upTo_prefix d j
    rw [h0] at hm
    exact (List.append_eq_nil_iff.1 hm.symm).1
  have hnx : ∀ j, (F.read (bl (F.next d j))).fs = [] := fun j => by
    have := hnil (j + 1)
    rw [upTo_succ] at this
    exact (List.append_eq_nil_iff.1 this).2
  intro k
  induction k with
  | zero =>
    intro j h1 hk
    obtain rfl : j = d.size := by omega
    exact .last (cuts_r0 r (F.heldTo d d.size) d rbad (F.badTo d d.size) d.size (by have := heldTo_size d d.size; omega) (heldTo_size _ _) (badTo_fit _ _) ⟨by omega, by omega⟩ (held_size _) (hnx d.size) _ (fun h => absurd h (by omega)) (fun _ => ⟨rfl, rfl, rfl, fun j hj => hj⟩)) (by intro h; cases h)
  | succ k ih =>
    intro j h1 hk
    have next := ih (j + 1) (by omega) (by omega)
    rw [← heldTo_succ, ← badTo_succ] at next
    exact .more (o1 := ⟨.normal, frCuts d nilV nilV ((j + 1 : Nat) : Int), [rdB r rbad, rdB (F.held (F.next d j)) (F.badOf (F.next d j) (F.badTo d j))], []⟩) (cuts_r0 r (F.heldTo d j) d rbad (F.badTo d j) j (by have := heldTo_size d j; omega) (heldTo_size _ _) (badTo_fit _ _) ⟨by omega, by omega⟩ (held_size _) (hnx j) _ (fun _ => ⟨rfl, rfl, rfl, fun j hj => hj⟩) (fun h => absurd (show (j : Int) < (d.size : Int) by omega) h)) rfl next (fun j hj => by cases hj)
def oneV (fs : List F.Fm) : Value := if fs.length = 0 then nilV else slV 3 fs.length
def oneB (fs : List F.Fm) : Hp := if fs.length = 0 then [] else [.own 23 (F.cells fs)]
theorem oneV_nil : oneV [] = nilV := rfl
theorem oneV_some {fs : List F.Fm} (h : fs ≠ []) : oneV fs = slV 3 fs.length := if_neg (fun e => h (List.length_eq_zero_iff.1 e))
theorem oneB_some {fs : List F.Fm} (h : fs ≠ []) : oneB fs = [.own 23 (F.cells fs)] := if_neg (fun e => h (List.length_eq_zero_iff.1 e))
theorem next_size (d : ByteArray) (j : Nat) : (F.next d j).size ≤ 70 := by
  have h := heldTo_size d j
  rw [← bl_len, next_bl, List.length_append, List.length_take]
  unfold F.heldTo at h
  rw [str_size] at h
  omega
theorem count_next (d : ByteArray) (j : Nat) (h : (F.read (bl (F.next d j))).fs ≠ []) : 0 < F.count (F.next d j) ∧ F.count (F.next d j) ≤ 1048576 := by
  have h1 := (read_held (bl (F.next d j))).2.2
  have h2 := next_size d j
  rw [bl_len] at h1
  refine ⟨?_, by unfold F.count; omega⟩
  unfold F.count
  cases hq : (F.read (bl (F.next d j))).fs with
  | nil => exact absurd hq h
  | cons => exact Nat.succ_pos _
theorem cuts_step {r d : ByteArray} {rbad : Int} (hd : d.size ≤ 1048576) (K : Nat) (al : List Value) {j : Nat} (hj : j ≤ d.size) (R : Out)
    (k_more : j < d.size → Out.le ⟨.normal, frCuts d (slV 2 K) (oneV (F.upTo d (j + 1)).fs) ((j : Int) + 1), [rdB r rbad, rdB (F.heldTo d (j + 1)) (F.badTo d (j + 1)), .own 23 al] ++ oneB (F.upTo d (j + 1)).fs, []⟩ R)
    (k_end : ¬ j < d.size → Out.le ⟨.exit 0, frCuts d (slV 2 K) (oneV (F.upTo d j).fs) j, [rdB r rbad, rdB (F.heldTo d j) (F.badTo d j), .own 23 al] ++ oneB (F.upTo d j).fs, []⟩ R) :
    CodeSpec Try.prog 0 cuts_loop (frCuts d (slV 2 K) (oneV (F.upTo d j).fs) j) ([rdB r rbad, rdB (F.heldTo d j) (F.badTo d j), .own 23 al] ++ oneB (F.upTo d j).fs) R := by
  have hh := heldTo_size d j
  have hb := badTo_fit d j
  have hs := congrArg F.Got.fs (upTo_succ d j)
  have hfl := fs_len d j
  rw [← heldTo_succ, ← badTo_succ, hs] at k_more
  have more : ((j : Nat) : Int) < ((d.size : Nat) : Int) → j < d.size := fun h => by omega
  have last : ¬ ((j : Nat) : Int) < ((d.size : Nat) : Int) → ¬ j < d.size := fun h => by omega
  by_cases h1 : (F.upTo d j).fs = []
  · rw [h1] at k_more k_end ⊢
    by_cases h2 : (F.read (bl (F.next d j))).fs = []
    · have k2 := k_more
      rw [h2] at k2
      exact cuts_r1 r _ d rbad _ j (by omega) hh hb ⟨by omega, by omega⟩ (held_size _) K al h2 R (fun h => k2 (more h)) (fun h => k_end (last h))
    · refine cuts_r2 r _ d rbad _ j (by omega) hh hb ⟨by omega, by omega⟩ (held_size _) K al _ rfl (count_next d j h2) (count_out _) h2 R (fun h => ?_) (fun h => k_end (last h))
      have k2 := k_more (more h)
      show Out.le (Out.mk _ _ [_, _, _, Blk.own 23 (List.take (F.count (F.next d j) * 3) (List.drop 0 (F.out (F.next d j))))] _) R
      rw [out_cut]
      rw [List.nil_append, oneV_some h2, oneB_some h2] at k2
      exact k2
  · have h3 : (F.upTo d j).fs ++ (F.read (bl (F.next d j))).fs ≠ [] := fun e => h1 (List.append_eq_nil_iff.1 e).1
    rw [oneV_some h1, oneB_some h1] at k_end ⊢
    rw [oneV_some h3, oneB_some h3, List.length_append, cells_append] at k_more
    by_cases h2 : (F.read (bl (F.next d j))).fs = []
    · refine cuts_r3 r _ d rbad _ j (by omega) hh hb ⟨by omega, by omega⟩ (held_size _) K al _ _ (cells_length _) (by omega) h2 R (fun h => ?_) (fun h => k_end (last h))
      have k2 := k_more (more h)
      rw [h2] at k2
      rw [show F.cells ([] : List F.Fm) = [] from rfl, List.append_nil] at k2
      exact k2
    · refine cuts_r4 r _ d rbad _ j (by omega) hh hb ⟨by omega, by omega⟩ (held_size _) K al _ _ (cells_length _) (by omega) _ rfl (count_next d j h2) (count_out _) h2 R (fun h => ?_) (fun h => k_end (last h))
      have k2 := k_more (more h)
      show Out.le (Out.mk _ _ [_, _, _, Blk.own 23 (F.cells (F.upTo d j).fs ++ List.take (F.count (F.next d j) * 3) (List.drop 0 (F.out (F.next d j))))] _) R
      rw [out_cut]
      exact k2
theorem cuts_rounds {r d : ByteArray} {rbad : Int} (hd : d.size ≤ 1048576) (K : Nat) (al : List Value) : ∀ (k j : Nat), j ≤ d.size → d.size - j = k →
    LoopSpec Try.prog 0 cuts_loop (frCuts d (slV 2 K) (oneV (F.upTo d j).fs) j) ([rdB r rbad, rdB (F.heldTo d j) (F.badTo d j), .own 23 al] ++ oneB (F.upTo d j).fs)
      ⟨.exit 0, frCuts d (slV 2 K) (oneV (F.upTo d d.size).fs) d.size, [rdB r rbad, rdB (F.heldTo d d.size) (F.badTo d d.size), .own 23 al] ++ oneB (F.upTo d d.size).fs, []⟩ := by
  intro k
  induction k with
  | zero =>
    intro j h1 hk
    obtain rfl : j = d.size := by omega
    exact .last (cuts_step hd K al (Nat.le_refl _) _ (fun h => absurd h (Nat.lt_irrefl _)) (fun _ => ⟨rfl, rfl, rfl, fun j hj => hj⟩)) (by intro h; cases h)
  | succ k ih =>
    intro j h1 hk
    exact .more (o1 := ⟨.normal, frCuts d (slV 2 K) (oneV (F.upTo d (j + 1)).fs) ((j : Int) + 1), [rdB r rbad, rdB (F.heldTo d (j + 1)) (F.badTo d (j + 1)), .own 23 al] ++ oneB (F.upTo d (j + 1)).fs, []⟩) (cuts_step hd K al h1 _ (fun _ => ⟨rfl, rfl, rfl, fun j hj => hj⟩) (fun h => absurd (show j < d.size by omega) h)) rfl (ih (j + 1) (by omega) (by omega)) (fun j hj => by cases hj)
/-- The loop, told: nothing is read. -/
theorem cuts_told0 {r d : ByteArray} {rbad : Int} (hd : d.size ≤ 1048576) (h0 : (F.read (bl d)).fs = []) :
    CodeSpec Try.prog 0 cuts_loopC (frCuts d nilV nilV 0) [rdB r rbad, rdB ⟨#[]⟩ 0] ⟨.exit 0, frCuts d nilV nilV d.size, [rdB r rbad, rdB (F.heldTo d d.size) (F.badTo d d.size)], []⟩ := (cuts_rounds0 hd h0 d.size 0 (Nat.zero_le _) (by omega)).code
theorem cuts_told {r d : ByteArray} {rbad : Int} (hd : d.size ≤ 1048576) {K : Nat} {al : List Value} (h0 : (F.read (bl d)).fs ≠ []) :
    CodeSpec Try.prog 0 cuts_loopC (frCuts d (slV 2 K) nilV 0) [rdB r rbad, rdB ⟨#[]⟩ 0, .own 23 al] ⟨.exit 0, frCuts d (slV 2 K) (slV 3 (F.count d)) d.size, [rdB r rbad, rdB (F.heldTo d d.size) (F.badTo d d.size), .own 23 al, .own 23 (F.out d)], []⟩ := by
  have h := (cuts_rounds (r := r) (rbad := rbad) hd K al d.size 0 (Nat.zero_le _) (by omega)).code
  rw [oneV_some (fs := (F.upTo d d.size).fs) (by rw [upTo_all]; exact h0), oneB_some (fs := (F.upTo d d.size).fs) (by rw [upTo_all]; exact h0), congrArg F.Got.fs (upTo_all d)] at h
  exact h
def cutsSum0 (fr : Fr) (hp : Hp) : Out := match fr.get 0, hp with
  | some (.string d), [r, _] => ⟨.exit 0, frCuts d nilV nilV d.size, [r, rdB (F.heldTo d d.size) (F.badTo d d.size)], []⟩
  | _, _ => ⟨.ret, fr, [], []⟩
def cutsSum (fr : Fr) (hp : Hp) : Out := match fr.get 0, fr.get 5, hp with
  | some (.string d), some (.slice _ K _), [r, _, a] => ⟨.exit 0, frCuts d (slV 2 K) (slV 3 (F.count d)) d.size, [r, rdB (F.heldTo d d.size) (F.badTo d d.size), a, .own 23 (F.out d)], []⟩
  | _, _, _ => ⟨.ret, fr, [], []⟩
end Go.Proofs.Ytgbncncmoiadaaa.Ex
