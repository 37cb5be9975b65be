/- Read: what a round does is what is read. -/
import Derived.Test.YtgbncncmoiadaaaReadB
import Derived.Test.YtgbncncmoiadaaaBytes
namespace Go.Proofs.Ytgbncncmoiadaaa.Ex
open Go
set_option linter.unusedVariables false
theorem getD_drop (l : List UInt8) (j m : Nat) : (l.drop j).getD m 0 = l.getD (j + m) 0 := by
  rw [List.getD_eq_getElem?_getD, List.getD_eq_getElem?_getD, List.getElem?_drop]
theorem u8_unbyte {b : UInt8} {c : Int} (hc : 0 ≤ c ∧ c ≤ 255) : ((b.toNat : Nat) : Int) = c ↔ unbyte (.int .u8 c) = b := by
  have := unbyte_nat hc
  constructor
  · intro h
    apply UInt8.toNat_inj.1
    omega
  · intro h
    rw [← h]
    exact this
theorem list3 {l : List UInt8} {n : Nat} (h : n + 6 ≤ l.length) : (l.drop 1).take (n + 3) = l.getD 1 0 :: l.getD 2 0 :: l.getD 3 0 :: (l.drop 4).take n := by
  match l, h with
  | a :: b :: c :: e :: r, _ => rfl
  | [], h => simp at h
  | [_], h => simp at h
  | [_, _], h => simp at h
  | [_, _, _], h => simp at h
theorem list2 {l : List UInt8} {m : Nat} (h : m + 2 ≤ l.length) : (l.drop m).take 2 = [l.getD m 0, l.getD (m + 1) 0] := by
  have e : (l.drop m).length = l.length - m := List.length_drop
  obtain ⟨a, b, r, hr⟩ : ∃ a b r, l.drop m = a :: b :: r := by
    match hq : l.drop m with
    | [] => rw [hq] at e; simp at e; omega
    | [x] => rw [hq] at e; simp at e; omega
    | a :: b :: r => exact ⟨a, b, r, rfl⟩
  have h0 := getD_drop l m 0
  have h1 := getD_drop l m 1
  rw [Nat.add_zero] at h0
  rw [← h0, ← h1, hr]
  rfl
/-- The reference's check is the frame's. -/
theorem rc_check {b1 b2 b3 : UInt8} {p : List UInt8} : F.checkN (F.str (b1 :: b2 :: b3 :: p)) = F.rc ((b1.toNat : Nat) : Int) ((b2.toNat : Nat) : Int) ((b3.toNat : Nat) : Int) (F.str p) := by
  unfold F.checkN F.rc
  have e : ByteArray.mk #[unbyte (Value.int .u8 ((b1.toNat : Nat) : Int)), unbyte (Value.int .u8 ((b2.toNat : Nat) : Int)), unbyte (Value.int .u8 ((b3.toNat : Nat) : Int))] ++ F.str p = F.str (b1 :: b2 :: b3 :: p) := by
    apply str_inj
    rw [bl_append, unbyte_nat8, unbyte_nat8, unbyte_nat8]
    rfl
  rw [e]
  rfl
theorem rc_u16 (n seq id : Int) (p : ByteArray) : F.u16 (F.rc n seq id p) := add_u16 _ _
theorem low_byte {c : Int} (h : F.u16 c) : IntKind.u8.wrap (Int.tmod c 256) = IntKind.u8.wrap c := by
  rw [Int.tmod_eq_emod_of_nonneg h.1, IntKind.wrap_u8, IntKind.wrap_u8]; omega
theorem high_byte {c : Int} (h : F.u16 c) : IntKind.u8.wrap (IntKind.u16.wrap (Int.tdiv c 256)) = IntKind.u8.wrap (c / 256) := by
  have := h.1
  have := h.2
  rw [Int.tdiv_eq_ediv_of_nonneg h.1, u16_wrap, IntKind.wrap_u8, IntKind.wrap_u8]; omega
theorem ite_iff {α : Type} {P Q : Prop} [Decidable P] [Decidable Q] (t : P ↔ Q) (a b : α) : (if P then a else b) = if Q then a else b := by
  by_cases q : Q
  · rw [if_pos q, if_pos (t.2 q)]
  · rw [if_neg q, if_neg (fun p => q (t.1 p))]
/-- The look, by the bytes' numbers. -/
theorem look_bytes {l : List UInt8} {c : Int} (h1 : 2 ≤ l.length) (h2 : ¬ 64 < (l.getD 1 0).toNat) (h3 : (l.getD 1 0).toNat + 6 ≤ l.length)
    (hc : c = F.rc (((l.getD 1 0).toNat : Nat) : Int) (((l.getD 2 0).toNat : Nat) : Int) (((l.getD 3 0).toNat : Nat) : Int) (F.str ((l.drop 4).take (l.getD 1 0).toNat))) :
    F.look l = if (((l.getD ((l.getD 1 0).toNat + 4) 0).toNat : Nat) : Int) = IntKind.u8.wrap (Int.tmod c 256) ∧ (((l.getD ((l.getD 1 0).toNat + 5) 0).toNat : Nat) : Int) = IntKind.u8.wrap (IntKind.u16.wrap (Int.tdiv c 256))
      then .good ⟨l.getD 2 0, l.getD 3 0, (l.drop 4).take (l.getD 1 0).toNat⟩ ((l.getD 1 0).toNat + 6) else .wrong := by
  rw [look_end (by omega) h2 (by omega), list3 h3, list2 (by omega)]
  have hu : F.u16 c := by rw [hc]; exact rc_u16 _ _ _ _
  rw [low_byte hu, high_byte hu]
  unfold F.sumOf F.check
  rw [bl_str, rc_check, ← hc]
  have t : ([unbyte (.int .u8 (IntKind.u8.wrap c)), unbyte (.int .u8 (IntKind.u8.wrap (c / 256)))] = [l.getD ((l.getD 1 0).toNat + 4) 0, l.getD ((l.getD 1 0).toNat + 4 + 1) 0]) ↔ ((((l.getD ((l.getD 1 0).toNat + 4) 0).toNat : Nat) : Int) = IntKind.u8.wrap c ∧ (((l.getD ((l.getD 1 0).toNat + 5) 0).toNat : Nat) : Int) = IntKind.u8.wrap (c / 256)) := by
    rw [u8_unbyte (u8_le _), u8_unbyte (u8_le _), List.cons.injEq, List.cons.injEq]
    exact ⟨fun h => ⟨h.1, h.2.1⟩, fun h => ⟨h.1, h.2, rfl⟩⟩
  exact ite_iff t _ _
theorem read_skip {b : UInt8} {l : List UInt8} (h : b ≠ 253) : F.read (b :: l) = F.read l := by
  rw [← read_pass (b :: l), pass_cons, show (b == 253) = false from beq_false_of_ne h]
  exact read_pass l
theorem pass_253 (l : List UInt8) : F.pass (253 :: l) = 253 :: l := rfl
end Go.Proofs.Ytgbncncmoiadaaa.Ex
