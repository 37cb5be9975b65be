/- FrameEncodes: its contract. -/
import Derived.Test.YtgbncncmoiadaaaEncB
namespace Go.Proofs.Ytgbncncmoiadaaa.Ex
open Go
set_option linter.unusedVariables false
theorem sum_list (s : ByteArray) : F.sum s = s.data.toList.foldl (fun c b => F.add c ((b.toNat : Nat) : Int)) 65535 := by
  unfold F.sum F.sumTo
  rw [← size_list, List.take_length]
theorem unbyte_nat {k : Int} (h : 0 ≤ k ∧ k ≤ 255) : ((unbyte (.int .u8 k)).toNat : Int) = k := by
  show ((UInt8.ofNat k.toNat).toNat : Int) = k
  rw [UInt8.toNat_ofNat']
  omega
theorem sum_snoc (a : ByteArray) {k : Int} (h : 0 ≤ k ∧ k ≤ 255) : F.sum (a ++ ByteArray.mk #[unbyte (.int .u8 k)]) = F.add (F.sum a) k := by
  rw [sum_list, sum_list, ByteArray.data_append, Array.toList_append, List.foldl_append]
  show F.add _ (((unbyte (.int .u8 k)).toNat : Nat) : Int) = _
  rw [unbyte_nat h]
theorem enc_same (p : ByteArray) (n seq id : Int) :
    ByteArray.mk #[253] ++ (ByteArray.mk #[unbyte (Value.int .u8 n), unbyte (Value.int .u8 seq), unbyte (Value.int .u8 id)] ++ p) = ByteArray.mk #[unbyte (Value.int .u8 253), unbyte (Value.int .u8 n), unbyte (Value.int .u8 seq), unbyte (Value.int .u8 id)] ++ p := by
  have e : unbyte (Value.int .u8 253) = 253 := by decide
  rw [e]
  apply ByteArray.ext
  simp [ByteArray.data_append, ← Array.append_assoc]
theorem enc_eq (p : ByteArray) (seq id : Int) :
    ByteArray.mk #[253] ++ (ByteArray.mk #[unbyte (Value.int .u8 ((ByteArray.size p : Nat) : Int)), unbyte (Value.int .u8 seq), unbyte (Value.int .u8 id)] ++ p) ++ ByteArray.mk #[unbyte (Value.int .u8 (IntKind.wrap .u8 (F.add (F.sum (ByteArray.mk #[unbyte (Value.int .u8 ((ByteArray.size p : Nat) : Int)), unbyte (Value.int .u8 seq), unbyte (Value.int .u8 id)] ++ p)) (IntKind.wrap .u8 (IntKind.wrap .u8 (7 * id) + 31))))), unbyte (Value.int .u8 (IntKind.wrap .u8 (F.add (F.sum (ByteArray.mk #[unbyte (Value.int .u8 ((ByteArray.size p : Nat) : Int)), unbyte (Value.int .u8 seq), unbyte (Value.int .u8 id)] ++ p)) (IntKind.wrap .u8 (IntKind.wrap .u8 (7 * id) + 31)) / 256)))] =
    ByteArray.mk #[unbyte (Value.int .u8 253), unbyte (Value.int .u8 ((ByteArray.size p : Nat) : Int)), unbyte (Value.int .u8 seq), unbyte (Value.int .u8 id)] ++ p ++ ByteArray.mk #[unbyte (Value.int .u8 (IntKind.wrap .u8 (Int.tmod (F.sum (ByteArray.mk #[unbyte (Value.int .u8 ((ByteArray.size p : Nat) : Int)), unbyte (Value.int .u8 seq), unbyte (Value.int .u8 id)] ++ p ++ ByteArray.mk #[unbyte (Value.int .u8 (IntKind.wrap .u8 (IntKind.wrap .u8 (7 * id) + 31)))])) 256))), unbyte (Value.int .u8 (IntKind.wrap .u8 (IntKind.wrap .u16 (Int.tdiv (F.sum (ByteArray.mk #[unbyte (Value.int .u8 ((ByteArray.size p : Nat) : Int)), unbyte (Value.int .u8 seq), unbyte (Value.int .u8 id)] ++ p ++ ByteArray.mk #[unbyte (Value.int .u8 (IntKind.wrap .u8 (IntKind.wrap .u8 (7 * id) + 31)))])) 256))))] := by
  rw [sum_snoc _ (u8_le _), enc_same]
  have hc := add_u16 (F.sum (ByteArray.mk #[unbyte (Value.int .u8 ((ByteArray.size p : Nat) : Int)), unbyte (Value.int .u8 seq), unbyte (Value.int .u8 id)] ++ p)) (IntKind.wrap .u8 (IntKind.wrap .u8 (7 * id) + 31))
  revert hc
  generalize F.add (F.sum (ByteArray.mk #[unbyte (Value.int .u8 ((ByteArray.size p : Nat) : Int)), unbyte (Value.int .u8 seq), unbyte (Value.int .u8 id)] ++ p)) (IntKind.wrap .u8 (IntKind.wrap .u8 (7 * id) + 31)) = c
  intro hc
  unfold F.u16 at hc
  have e1 : IntKind.u8.wrap (Int.tmod c 256) = IntKind.u8.wrap c := by
    rw [Int.tmod_eq_emod_of_nonneg hc.1, IntKind.wrap_u8, IntKind.wrap_u8]; omega
  have e2 : IntKind.u16.wrap (Int.tdiv c 256) = c / 256 := by
    rw [Int.tdiv_eq_ediv_of_nonneg hc.1, u16_wrap]; omega
  rw [e1, e2]
theorem third (p : ByteArray) (a b c : UInt8) : List.getD (Array.toList (ByteArray.data (ByteArray.mk #[a, b, c] ++ p))) 2 0 = c := by
  rw [ByteArray.data_append, Array.toList_append]; rfl
theorem encodes_spec (seq id : Int) (p : ByteArray) (hp : p.size ≤ 140737488351232) : CallSpec Try.prog 3 [.agg #[.int .i64 seq, .int .i64 id, .string p]] [] ⟨.bool true, [], []⟩ := by
  apply encodes_ok seq id p hp (fun h => by rw [third, unbyte_nat h])
  case k_pffff =>
    intro _ _ _ h3
    exact absurd (by rw [enc_eq]; exact beq_self_eq_true _) h3
  all_goals intros; exact ⟨rfl, rfl, fun j hj => hj⟩
theorem encodes_row (W : World) (a b : Int) (s : ByteArray) (hs : s.size ≤ 140737488351232) :
    ∃ (args' : List Value) (hp hp' : Hp) (ν : Nu) (args0 : List Value), #[Value.agg ([Value.int .i64 a] ++ ([Value.int .i64 b] ++ [Value.string s])).toArray] = args'.toArray ∧ L2 (VR ν) args0 args' ∧ Rep Try.prog ν hp W ∧ CallSpec Try.prog 3 args0 hp ⟨.bool true, hp', []⟩ :=
  ⟨_, _, [], _, _, rfl, .cons ((flat_VR rfl _).2 rfl) .nil, rep_none W, encodes_spec a b s hs⟩
end Go.Proofs.Ytgbncncmoiadaaa.Ex
