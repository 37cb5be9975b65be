/- FrameTurned: its contract. -/
import Derived.Test.YtgbncncmoiadaaaTurnedD
import Derived.Test.YtgbncncmoiadaaaTurnedB
namespace Go.Proofs.Ytgbncncmoiadaaa.Ex
open Go
set_option linter.unusedVariables false
theorem bytes_len (s : ByteArray) : (bytesOf s).length = s.size := by
  unfold bytesOf
  rw [List.length_map, size_list]
theorem bytes_at {l : List UInt8} {n : Nat} {b : UInt8} (h : l[n]? = some b) : (bytesOf (F.str l)).getD n undef = .int .u8 ((b.toNat : Nat) : Int) := by
  unfold bytesOf
  rw [List.getD_eq_getElem?_getD, List.getElem?_map]
  show Option.getD (Option.map _ l[n]?) undef = _
  rw [h]
  rfl
theorem bytes_set (l : List UInt8) (n : Nat) (y : UInt8) : put (bytesOf (F.str l)) n [.int .u8 ((y.toNat : Nat) : Int)] = bytesOf (F.str (l.set n y)) := by
  show ((l.map fun b => Value.int .u8 ((b.toNat : Nat) : Int))).set n _ = (l.set n y).map fun b => Value.int .u8 ((b.toNat : Nat) : Int)
  rw [List.map_set]
theorem unbyte_nat8 (b : UInt8) : unbyte (.int .u8 ((b.toNat : Nat) : Int)) = b := by
  apply UInt8.toNat_inj.1
  have := unbyte_nat (k := ((b.toNat : Nat) : Int)) (by have := b.toNat_lt; omega)
  omega
theorem unbytes (s : ByteArray) : (bytesOf s).map unbyte = bl s := by
  unfold bytesOf
  rw [List.map_map]
  have : (unbyte ∘ fun (b : UInt8) => Value.int .u8 ((b.toNat : Nat) : Int)) = id := funext unbyte_nat8
  rw [this, List.map_id]
theorem bytes_all (s : ByteArray) : (bytesOf s).all (isInt .u8) = true := by
  unfold bytesOf
  rw [List.all_map]
  exact List.all_eq_true.2 fun b _ => rfl
theorem bxor_u8 (b : UInt8) {k : Int} (hk : 0 ≤ k ∧ k ≤ 255) : F.bxor .u8 ((b.toNat : Nat) : Int) k = (((b ^^^ unbyte (.int .u8 k)).toNat : Nat) : Int) := by
  obtain ⟨m, rfl⟩ := Int.eq_ofNat_of_zero_le hk.1
  have hm : m < 256 := by have := hk.2; omega
  have hb := b.toNat_lt
  have hx : b.toNat ^^^ m < 2 ^ 8 := Nat.xor_lt_two_pow (by omega) (by omega)
  have hu : (unbyte (.int .u8 (m : Int))).toNat = m := by
    have := unbyte_nat hk
    omega
  rw [UInt8.toNat_xor, hu]
  unfold F.bxor
  have e : IntKind.u8.bits = 8 := rfl
  rw [e, IntKind.wrap_u8, BitVec.toNat_xor, BitVec.ofInt_natCast, BitVec.ofInt_natCast, BitVec.toNat_ofNat, BitVec.toNat_ofNat, Nat.mod_eq_of_lt (by omega), Nat.mod_eq_of_lt (by omega)]
  omega
theorem xor_turn {b u : UInt8} (h : b = b ^^^ u) : u = 0 := by
  have h1 := congrArg UInt8.toNat h
  rw [UInt8.toNat_xor] at h1
  apply UInt8.toNat_inj.1
  have h2 : (0 : Nat) ^^^ b.toNat = u.toNat ^^^ b.toNat := by rw [Nat.zero_xor, Nat.xor_comm u.toNat]; exact h1
  exact (xor_cancel h2).symm
theorem encE_cases (seq id : Int) (p : ByteArray) : F.encE seq id p = 0 → 0 ≤ seq ∧ seq ≤ 255 ∧ 0 ≤ id ∧ id ≤ 255 ∧ p.size ≤ 64 := by
  unfold F.encE
  intro h
  split at h
  · split at h
    · omega
    · cases h
  · cases h
theorem nil_append (t : ByteArray) : ByteArray.mk #[] ++ t = t := by
  apply str_inj
  rw [bl_append]
  rfl
theorem turned_spec (seq id at1 turn : Int) (p : ByteArray) (hp : p.size ≤ 140737488351232) (ht : 0 ≤ turn ∧ turn ≤ 255) : CallSpec Try.prog 8 [.agg #[.int .i64 seq, .int .i64 id, .string p], .int .i64 at1, .int .u8 turn] [] ⟨.bool true, [], []⟩ := by
  by_cases hv : 2 ≤ at1 ∧ at1 ≠ 3 ∧ turn ≠ 0 ∧ at1 < (F.encS seq id p).size
  case neg =>
    apply turned_oko seq id at1 turn p hp ht (by omega)
    all_goals intros; exact ⟨rfl, rfl, fun j hj => hj⟩
  have hE : F.encE seq id p = 0 := by
    refine Decidable.byContradiction fun h => ?_
    have : (F.encS seq id p).size = 0 := by unfold F.encS; rw [if_neg h]; rfl
    omega
  have hS : F.encS seq id p = F.str (F.enc (F.fm seq id p)) := by unfold F.encS; rw [if_pos hE]
  have hp64 := (encE_cases seq id p hE).2.2.2.2
  have hfl : (F.fm seq id p).p.length = p.size := bl_len p
  have hz : (F.encS seq id p).size = p.size + 6 := by rw [hS, str_size, enc_len, hfl]
  obtain ⟨n, hn⟩ := Int.eq_ofNat_of_zero_le (show 0 ≤ at1 by omega)
  obtain ⟨b, hb⟩ : ∃ b, (F.enc (F.fm seq id p))[n]? = some b := ⟨(F.enc (F.fm seq id p))[n]'(by rw [enc_len, hfl]; omega), by simp⟩
  obtain ⟨y, hy⟩ : ∃ y, y = b ^^^ unbyte (.int .u8 turn) := ⟨_, rfl⟩
  have hne : b ≠ y := by
    intro h
    rw [hy] at h
    have h1 := unbyte_nat ht
    rw [xor_turn h] at h1
    exact hv.2.2.1 h1.symm
  have hpos : 0 + Int.toNat at1 * 1 = n := by omega
  have hget : List.getD (bytesOf (F.encS seq id p)) (0 + Int.toNat at1 * 1) undef = .int .u8 ((b.toNat : Nat) : Int) := by rw [hpos, hS, bytes_at hb]
  have hput : put (bytesOf (F.encS seq id p)) (0 + Int.toNat at1 * 1) [Value.int IntKind.u8 ((y.toNat : Nat) : Int)] = bytesOf (F.str ((F.enc (F.fm seq id p)).set n y)) := by rw [hpos, hS, bytes_set]
  obtain ⟨t, htt⟩ : ∃ t, t = F.str ((F.enc (F.fm seq id p)).set n y) := ⟨_, rfl⟩
  have htz : t.size = p.size + 6 := by rw [htt, str_size, List.length_set, enc_len, hfl]
  rw [← htt] at hput
  have hcut : List.take (ByteArray.size (F.encS seq id p) * 1) (List.drop 0 (bytesOf t)) = bytesOf t := by
    rw [List.drop_zero]
    exact List.take_of_length_le (by rw [bytes_len, hz, htz]; omega)
  have hread := read_turned (f := F.fm seq id p) (by rw [hfl]; exact hp64) (show n = 2 ∨ 4 ≤ n by omega) hb hne
  have hbl : bl (ByteArray.mk #[] ++ t) = (F.enc (F.fm seq id p)).set n y := by rw [nil_append, htt, bl_str]
  have hbad : F.badOf (ByteArray.mk #[] ++ t) 0 ≥ 1 := by
    unfold F.badOf F.least
    rw [hbl]
    have := hread.1
    split <;> omega
  have hsz : (ByteArray.mk #[]).size + t.size ≤ 4398046510000 := by rw [show (ByteArray.mk #[]).size = 0 from rfl]; omega
  have fin : Res.le (Res.mk (Value.bool (decide (F.badOf (ByteArray.mk #[] ++ t) 0 ≥ 1))) [] []) ⟨.bool true, [], []⟩ := by
    rw [decide_eq_true hbad]
    exact ⟨rfl, rfl, fun j hj => hj⟩
  by_cases hf : (F.read (bl (ByteArray.mk #[] ++ t))).fs = []
  · apply turned_ok0 seq id at1 turn ((y.toNat : Nat) : Int) p t hp ht hv (by rw [hz]; simp; omega) (by rw [bytes_len]; omega) (by rw [hget]; rfl) (by rw [hget]; show Value.int .u8 (F.bxor .u8 ((b.toNat : Nat) : Int) turn) = _; rw [bxor_u8 b ht, hy]) (by simp [bytes_len, flat1] <;> omega) (by rw [hput, bytes_len] <;> omega) (by rw [hput, hcut]; exact bytes_all t) (by rw [hput, hcut, unbytes]) hsz hf
    case k_pf => intros; exact fin
    all_goals intros; exact ⟨rfl, rfl, fun j hj => hj⟩
  · apply turned_ok seq id at1 turn ((y.toNat : Nat) : Int) p t hp ht hv (by rw [hz]; simp; omega) (by rw [bytes_len]; omega) (by rw [hget]; rfl) (by rw [hget]; show Value.int .u8 (F.bxor .u8 ((b.toNat : Nat) : Int) turn) = _; rw [bxor_u8 b ht, hy]) (by simp [bytes_len, flat1] <;> omega) (by rw [hput, bytes_len] <;> omega) (by rw [hput, hcut]; exact bytes_all t) (by rw [hput, hcut, unbytes]) hsz hf (by have := (read_held (bl (ByteArray.mk #[] ++ t))).2.2; rw [bl_len, nil_append, htz] at this; rw [nil_append]; omega) (by rw [hbl, ← hfl]; exact hread.2)
    case k_pf => intros; exact fin
    all_goals intros; exact ⟨rfl, rfl, fun j hj => hj⟩
theorem turned_row (W : World) (a b c d : Int) (s : ByteArray) (hs : s.size ≤ 140737488351232) (hd : 0 ≤ d ∧ d ≤ 255) :
    ∃ (args' : List Value) (hp hp' : Hp) (ν : Nu) (args0 : List Value), #[Value.agg ([Value.int .i64 a] ++ ([Value.int .i64 b] ++ [Value.string s])).toArray, Value.int .i64 c, Value.int .u8 d] = args'.toArray ∧ L2 (VR ν) args0 args' ∧ Rep Try.prog ν hp W ∧ CallSpec Try.prog 8 args0 hp ⟨.bool true, hp', []⟩ :=
  ⟨_, _, [], _, _, rfl, .cons ((flat_VR rfl _).2 rfl) (.cons ((flat_VR rfl _).2 rfl) (.cons ((flat_VR rfl _).2 rfl) .nil)), rep_none W, turned_spec a b c d s hs hd⟩
end Go.Proofs.Ytgbncncmoiadaaa.Ex
