/- Reader: seek, wrong, check, told. -/
import Derived.Test.YtgbncncmoiadaaaSeekA
namespace Go.Proofs.Ytgbncncmoiadaaa.Ex
open Go
set_option linter.unusedVariables false
/-- The bytes of a string, and a string of bytes. -/
abbrev bl (s : ByteArray) : List UInt8 := s.data.toList
def F.str (l : List UInt8) : ByteArray := ⟨l.toArray⟩
theorem bl_str (l : List UInt8) : bl (F.str l) = l := rfl
theorem str_bl (s : ByteArray) : F.str (bl s) = s := rfl
theorem str_inj {s t : ByteArray} (h : bl s = bl t) : s = t := by rw [← str_bl s, ← str_bl t, h]
theorem str_size (l : List UInt8) : (F.str l).size = l.length := by rw [← size_list]; rfl
theorem bl_len (s : ByteArray) : (bl s).length = s.size := size_list s
theorem bl_cut (s : ByteArray) (a b : Nat) : bl (s.extract a b) = ((bl s).take b).drop a := by
  simp [bl, ByteArray.data_extract, List.extract_eq_take_drop, List.drop_take]
theorem bl_append (s t : ByteArray) : bl (s ++ t) = bl s ++ bl t := by
  simp [bl, ByteArray.data_append]
/-- What does not begin a frame. -/
def F.pass : List UInt8 → List UInt8
  | [] => []
  | b :: l => bif b == 253 then b :: l else F.pass l
def F.has (s : ByteArray) : Bool := !(F.pass (bl s)).isEmpty
def F.seek (s : ByteArray) : ByteArray := F.str (F.pass (bl s))
def F.from (s : ByteArray) (n : Int) : ByteArray := F.str ((bl s).drop n.toNat)
def F.more (bad : Int) : Int := if 65535 < bad + 1 then 65535 else bad + 1
/-- A frame's check. -/
def F.checkN (s : ByteArray) : Int := F.add (F.sum s) (IntKind.wrap .u8 (IntKind.wrap .u8 (7 * (((F.byte s 2).toNat : Nat) : Int)) + 31))
def F.check (s : ByteArray) : ByteArray := F.str [unbyte (.int .u8 (IntKind.wrap .u8 (F.checkN s))), unbyte (.int .u8 (IntKind.wrap .u8 (F.checkN s / 256)))]
theorem pass_len : ∀ l : List UInt8, (F.pass l).length ≤ l.length
  | [] => Nat.le_refl _
  | b :: l => by
    unfold F.pass
    cases b == 253
    · exact Nat.le_succ_of_le (pass_len l)
    · exact Nat.le_refl _
theorem find_none (s : ByteArray) {n : Nat} (h : (List.range n).find? (fun i => s[i]! == (253 : UInt8)) = none) : ∀ i, i < n → s[i]! ≠ 253 := by
  intro i hi e
  have := List.find?_eq_none.1 h i (List.mem_range.2 hi)
  simp [e] at this
theorem get_bl (s : ByteArray) (i : Nat) (h : i < (bl s).length) : s[i]! = (bl s)[i] := by
  have h' : i < s.size := by rw [← bl_len]; exact h
  rw [getElem!_pos s i h']
  rfl
theorem pass_none : ∀ (l : List UInt8), (∀ b ∈ l, b ≠ 253) → F.pass l = []
  | [], _ => rfl
  | b :: l, h => by
    unfold F.pass
    rw [show (b == 253) = false from beq_false_of_ne (h b (by simp))]
    exact pass_none l fun c hc => h c (by simp [hc])
theorem pass_at : ∀ (l : List UInt8) (n : Nat) (h : n < l.length), l[n] = 253 → (∀ i (hi : i < n), l[i] ≠ 253) → F.pass l = l.drop n
  | [], n, h, _, _ => absurd h (Nat.not_lt_zero n)
  | b :: l, 0, h, e, _ => by
    have e' : b = 253 := e
    unfold F.pass
    rw [show (b == 253) = true from by rw [e']; rfl]
    rfl
  | b :: l, n + 1, h, e, f => by
    unfold F.pass
    rw [show (b == 253) = false from beq_false_of_ne (f 0 (Nat.succ_pos n))]
    exact pass_at l n (Nat.lt_of_succ_lt_succ h) e fun i hi => f (i + 1) (Nat.succ_lt_succ hi)
theorem find_cases (s : ByteArray) : (F.find s 253 = -1 ∧ F.pass (bl s) = []) ∨ ∃ n : Nat, F.find s 253 = n ∧ n < s.size ∧ F.pass (bl s) = (bl s).drop n ∧ F.pass (bl s) ≠ [] := by
  unfold F.find
  rw [show (253 : Int).toNat.toUInt8 = 253 from rfl]
  cases h : (List.range s.size).find? (fun i => s[i]! == (253 : UInt8)) with
  | none =>
    refine .inl ⟨rfl, pass_none _ fun b hb => ?_⟩
    obtain ⟨i, hi, e⟩ := List.getElem_of_mem hb
    have := find_none s h i (by rw [← bl_len]; exact hi)
    rw [get_bl s i hi, e] at this
    exact this
  | some n =>
    have hn : n < s.size := List.mem_range.1 (List.mem_of_find?_eq_some h)
    have hl : n < (bl s).length := by rw [bl_len]; exact hn
    have hp : s[n]! = 253 := by simpa using List.find?_some h
    rw [get_bl s n hl] at hp
    have hd : F.pass (bl s) = (bl s).drop n := pass_at _ n hl hp fun i hi => by
      obtain ⟨_, xs, ys, hab, hall⟩ := List.find?_eq_some_iff_append.1 h
      have hlen : xs.length = n := by
        have h1 : (List.range s.size)[xs.length]'(by rw [hab]; simp) = n := by
          simp only [hab, List.getElem_append_right, Nat.le_refl, Nat.sub_self, List.getElem_cons_zero]
        rw [List.getElem_range] at h1
        exact h1
      have hm : i ∈ xs := by
        have h2 : (List.range s.size)[i]'(by rw [List.length_range]; omega) = i := by rw [List.getElem_range]
        have h3 : (List.range s.size)[i]'(by rw [List.length_range]; omega) = xs[i]'(by omega) := by
          simp only [hab]
          rw [List.getElem_append_left]
        rw [h2] at h3
        rw [h3]
        exact List.getElem_mem _
      have := hall i hm
      rw [get_bl s i (by omega)] at this
      simpa using this
    refine .inr ⟨n, rfl, hn, hd, ?_⟩
    rw [hd]
    intro e
    have := congrArg List.length e
    rw [List.length_drop, bl_len] at this
    simp at this
    omega
theorem find_le (s : ByteArray) : -1 ≤ F.find s 253 ∧ F.find s 253 < s.size := by
  rcases find_cases s with ⟨e, _⟩ | ⟨n, e, h, _⟩ <;> omega
theorem bl_beq (s t : ByteArray) : (ByteArray.toList s == ByteArray.toList t) = (bl s == bl t) := by
  rw [ByteArray.toList_eq, ByteArray.toList_eq]
theorem beq_str {s t : ByteArray} (h : (ByteArray.toList s == ByteArray.toList t) = true) : s = t := by
  rw [bl_beq] at h
  exact str_inj (by simpa using h)
def seekSum (args : List Value) (hp : Hp) : Res := match hp with
  | [.own 51 [.string s, .int _ bad]] => ⟨.bool (F.has s), [rdB (F.seek s) bad], [0]⟩
  | _ => ⟨undef, [], []⟩
def wrongSum (args : List Value) (hp : Hp) : Res := match hp with
  | [.own 51 [.string s, .int _ bad]] => ⟨.tuple #[], [rdB (F.from s 1) (F.more bad)], [0, 0]⟩
  | _ => ⟨undef, [], []⟩
def dropSum (args : List Value) (hp : Hp) : Res := match args, hp with
  | [_, .int _ n], [.own 51 [.string s, .int _ bad]] => ⟨.tuple #[], [rdB (F.from s n) bad], [0]⟩
  | _, _ => ⟨undef, [], []⟩
def checkSum (args : List Value) (hp : Hp) : Res := match args with
  | [.string s] => ⟨.string (F.check s), [], []⟩
  | _ => ⟨undef, [], []⟩
theorem from_cut (s : ByteArray) (n : Int) : s.extract n.toNat s.size = F.from s n := by
  apply str_inj
  rw [bl_cut, F.from, bl_str, ← bl_len, List.take_length]
theorem seek_told {s : ByteArray} {bad : Int} (hs : s.size ≤ 9223372036854775000) : CallSpec Try.prog 24 [at_ 0 0] [rdB s bad] ⟨.bool (F.has s), [rdB (F.seek s) bad], [0]⟩ := by
  rcases find_cases s with ⟨e, h⟩ | ⟨n, e, h, d, f⟩
  · have hb : F.has s = false := by unfold F.has; rw [h]; rfl
    have hk : F.seek s = ByteArray.mk #[] := by unfold F.seek; rw [h]; rfl
    rw [hb, hk]
    refine seek_ok s bad hs (find_le s) _ (fun h0 => ?_) (fun _ _ => ⟨rfl, rfl, fun j hj => hj⟩) (fun _ h1 => absurd (show F.find s 253 < 0 by omega) h1)
    have := beq_str h0
    rw [← this] at h
    exact absurd h (by decide)
  · have hb : F.has s = true := by
      unfold F.has
      cases hq : F.pass (bl s) with
      | nil => exact absurd hq f
      | cons => rfl
    have hk : s.extract (Int.toNat (F.find s 253)) s.size = F.seek s := by
      rw [from_cut, e]
      apply str_inj
      rw [F.from, F.seek, bl_str, bl_str, d]
      rfl
    rw [hb]
    refine seek_ok s bad hs (find_le s) _ (fun h0 => ?_) (fun _ h1 => absurd h1 (by omega)) (fun _ _ => ?_)
    · have := beq_str h0
      subst this
      exact ⟨rfl, rfl, fun j hj => hj⟩
    · rw [hk]
      exact ⟨rfl, rfl, fun j hj => hj⟩
theorem wrong_told {s : ByteArray} {bad : Int} (hs : s.size ≤ 9223372036854775000 ∧ 1 ≤ s.size) (hb : 0 ≤ bad ∧ bad ≤ 65535) : CallSpec Try.prog 26 [at_ 0 0] [rdB s bad] ⟨.tuple #[], [rdB (F.from s 1) (F.more bad)], [0, 0]⟩ := by
  refine wrong_ok s bad hs hb _ ?_
  have := from_cut s 1
  rw [show Int.toNat 1 = 1 from rfl] at this
  rw [this]
  exact ⟨rfl, rfl, fun j hj => hj⟩
theorem drop_told {s : ByteArray} {bad n : Int} (hs : s.size ≤ 9223372036854775000) (hn : 0 ≤ n ∧ n ≤ s.size) : CallSpec Try.prog 28 [at_ 0 0, .int .i64 n] [rdB s bad] ⟨.tuple #[], [rdB (F.from s n) bad], [0]⟩ := by
  refine drop_ok s bad n hs hn _ ?_
  rw [from_cut]
  exact ⟨rfl, rfl, fun j hj => hj⟩
theorem check_told {s : ByteArray} (hs : s.size ≤ 9223372036854775000 ∧ 3 ≤ s.size) : CallSpec Try.prog 22 [.string s] [] ⟨.string (F.check s), [], []⟩ :=
  check_ok s hs _ ⟨rfl, rfl, fun j hj => hj⟩
theorem seek_size (s : ByteArray) : (F.seek s).size ≤ s.size := by
  unfold F.seek
  rw [str_size, ← bl_len]
  exact pass_len _
theorem has_size (s : ByteArray) : F.has s = true → 1 ≤ (F.seek s).size := by
  intro h
  unfold F.seek
  rw [str_size]
  unfold F.has at h
  cases hq : F.pass (bl s) with
  | nil => rw [hq] at h; cases h
  | cons => simp
end Go.Proofs.Ytgbncncmoiadaaa.Ex
