/- Bytes in a block. -/
import Derived.Test.YtgbncncmoiadaaaEncE
namespace Go.Proofs.Ytgbncncmoiadaaa.Ex
open Go
set_option linter.unusedVariables false
theorem bytes_len (s : ByteArray) : (bytesOf s).length = s.size := by
  unfold bytesOf
  rw [List.length_map, size_list]
theorem bytes_at {l : List UInt8} {n : Nat} {b : UInt8} (h : l[n]? = some b) : (bytesOf (F.str l)).getD n undef = .int .u8 ((b.toNat : Nat) : Int) := by
  unfold bytesOf
  rw [List.getD_eq_getElem?_getD, List.getElem?_map]
  show Option.getD (Option.map _ l[n]?) undef = _
  rw [h]
  rfl
theorem bytes_set (l : List UInt8) (n : Nat) (y : UInt8) : put (bytesOf (F.str l)) n [.int .u8 ((y.toNat : Nat) : Int)] = bytesOf (F.str (l.set n y)) := by
  show ((l.map fun b => Value.int .u8 ((b.toNat : Nat) : Int))).set n _ = (l.set n y).map fun b => Value.int .u8 ((b.toNat : Nat) : Int)
  rw [List.map_set]
theorem unbyte_nat8 (b : UInt8) : unbyte (.int .u8 ((b.toNat : Nat) : Int)) = b := by
  apply UInt8.toNat_inj.1
  have := unbyte_nat (k := ((b.toNat : Nat) : Int)) (by have := b.toNat_lt; omega)
  omega
theorem unbytes (s : ByteArray) : (bytesOf s).map unbyte = bl s := by
  unfold bytesOf
  rw [List.map_map]
  have : (unbyte ∘ fun (b : UInt8) => Value.int .u8 ((b.toNat : Nat) : Int)) = id := funext unbyte_nat8
  rw [this, List.map_id]
theorem bytes_all (s : ByteArray) : (bytesOf s).all (isInt .u8) = true := by
  unfold bytesOf
  rw [List.all_map]
  exact List.all_eq_true.2 fun b _ => rfl
theorem encE_cases (seq id : Int) (p : ByteArray) : F.encE seq id p = 0 → 0 ≤ seq ∧ seq ≤ 255 ∧ 0 ≤ id ∧ id ≤ 255 ∧ p.size ≤ 64 := by
  unfold F.encE
  intro h
  split at h
  · split at h
    · omega
    · cases h
  · cases h
theorem bytes_append (s t : ByteArray) : bytesOf (s ++ t) = bytesOf s ++ bytesOf t := by
  unfold bytesOf
  rw [ByteArray.data_append, Array.toList_append, List.map_append]
theorem str_append (l m : List UInt8) : F.str (l ++ m) = F.str l ++ F.str m := by
  apply str_inj
  rw [bl_append]
  rfl
theorem bytes_str (l m : List UInt8) : bytesOf (F.str (l ++ m)) = bytesOf (F.str l) ++ bytesOf (F.str m) := by rw [str_append, bytes_append]
theorem unbytes_cut (s : ByteArray) : ByteArray.mk (List.toArray (List.map unbyte (List.take (s.size * 1) (List.drop 0 (bytesOf s))))) = s := by
  rw [List.drop_zero, List.take_of_length_le (by rw [bytes_len]; omega), unbytes]
theorem all_cut (s : ByteArray) : List.all (List.take (s.size * 1) (List.drop 0 (bytesOf s))) (isInt .u8) = true := by
  rw [List.drop_zero, List.take_of_length_le (by rw [bytes_len]; omega)]
  exact bytes_all s
/-- A slice of bytes: nil if there are none. -/
def bV (k : Nat) (l : List UInt8) : Value := if l.length = 0 then .slice none 0 0 else .slice (some ⟨k, 0, none⟩) l.length l.length
def bB (l : List UInt8) : Hp := if l.length = 0 then [] else [.own 5 (bytesOf (F.str l))]
theorem bV_nil (k : Nat) : bV k [] = .slice none 0 0 := rfl
theorem bB_nil : bB [] = [] := rfl
theorem bV_some {k : Nat} {l : List UInt8} (h : l ≠ []) : bV k l = .slice (some ⟨k, 0, none⟩) l.length l.length := if_neg (fun e => h (List.length_eq_zero_iff.1 e))
theorem bB_some {l : List UInt8} (h : l ≠ []) : bB l = [.own 5 (bytesOf (F.str l))] := if_neg (fun e => h (List.length_eq_zero_iff.1 e))
end Go.Proofs.Ytgbncncmoiadaaa.Ex
