/- Encode, told; what is written is read. -/
import Derived.Test.YtgbncncmoiadaaaEncD
namespace Go.Proofs.Ytgbncncmoiadaaa.Ex
open Go
set_option linter.unusedVariables false
def F.right (seq id : Int) (p : ByteArray) : Bool := decide (0 ≤ seq ∧ seq ≤ 255 ∧ 0 ≤ id ∧ id ≤ 255 ∧ p.size ≤ 64)
/-- What is told: 0 if all is right. -/
def F.encE (seq id : Int) (p : ByteArray) : Int := if 0 ≤ seq ∧ seq ≤ 255 ∧ 0 ≤ id ∧ id ≤ 255 then (if p.size ≤ 64 then 0 else 3) else 5
/-- A frame's bytes. -/
def F.enc (f : F.Fm) : List UInt8 := 253 :: UInt8.ofNat f.p.length :: f.seq :: f.id :: (f.p ++ F.sumOf (UInt8.ofNat f.p.length :: f.seq :: f.id :: f.p))
def F.fm (seq id : Int) (p : ByteArray) : F.Fm := ⟨unbyte (.int .u8 seq), unbyte (.int .u8 id), bl p⟩
def F.encS (seq id : Int) (p : ByteArray) : ByteArray := F.str (if F.encE seq id p = 0 then F.enc (F.fm seq id p) else [])
theorem check_size (s : ByteArray) : (F.check s).size = 2 := rfl
theorem unbyte_size (p : ByteArray) : unbyte (Value.int IntKind.u8 ((ByteArray.size p : Nat) : Int)) = UInt8.ofNat (bl p).length := by
  rw [bl_len]; rfl
theorem encode_done {seq id : Int} {p : ByteArray} (hp : p.size ≤ 140737488351232) : CallSpec Try.prog 11 [.agg #[.int .i64 seq, .int .i64 id, .string p]] [] ⟨.tuple #[.string (F.encS seq id p), .int .i64 (F.encE seq id p)], [], []⟩ := by
  apply encode_ok seq id p hp rfl
  case k_pt =>
    intro h0
    have e : F.encE seq id p = 5 := if_neg (by intro h; split at h0 <;> omega)
    unfold F.encS
    rw [e]
    exact ⟨rfl, rfl, fun j hj => hj⟩
  case k_pft =>
    intro h0 h1
    have e : F.encE seq id p = 5 := if_neg (by intro h; split at h1 <;> omega)
    unfold F.encS
    rw [e]
    exact ⟨rfl, rfl, fun j hj => hj⟩
  case k_pfft =>
    intro h0 h1 h2
    have e : F.encE seq id p = 3 := (if_pos (by split at h0 <;> split at h1 <;> omega)).trans (if_neg (by omega))
    unfold F.encS
    rw [e]
    exact ⟨rfl, rfl, fun j hj => hj⟩
  case k_pfff =>
    intro h0 h1 h2
    have e : F.encE seq id p = 0 := (if_pos (by split at h0 <;> split at h1 <;> omega)).trans (if_pos (by omega))
    unfold F.encS
    rw [e, if_pos rfl]
    have q : ByteArray.mk #[253] ++ (ByteArray.mk #[unbyte (Value.int IntKind.u8 ((ByteArray.size p : Nat) : Int)), unbyte (Value.int IntKind.u8 seq), unbyte (Value.int IntKind.u8 id)] ++ p) ++ F.check (ByteArray.mk #[unbyte (Value.int IntKind.u8 ((ByteArray.size p : Nat) : Int)), unbyte (Value.int IntKind.u8 seq), unbyte (Value.int IntKind.u8 id)] ++ p) = F.str (F.enc (F.fm seq id p)) := by
      apply str_inj
      rw [bl_append, bl_append, bl_append, bl_str, unbyte_size]
      have h : ByteArray.mk #[UInt8.ofNat (bl p).length, unbyte (Value.int IntKind.u8 seq), unbyte (Value.int IntKind.u8 id)] ++ p = F.str (UInt8.ofNat (bl p).length :: unbyte (Value.int IntKind.u8 seq) :: unbyte (Value.int IntKind.u8 id) :: bl p) := by
        apply str_inj
        rw [bl_append, bl_str]
        rfl
      rw [h]
      rfl
    rw [q]
    exact ⟨rfl, rfl, fun j hj => hj⟩
def encSum (args : List Value) (hp : Hp) : Res := match args with
  | [.agg cs] => match cs.toList with
    | [.int _ seq, .int _ id, .string p] => ⟨.tuple #[.string (F.encS seq id p), .int .i64 (F.encE seq id p)], [], []⟩
    | _ => ⟨undef, [], []⟩
  | _ => ⟨undef, [], []⟩
theorem sumOf_len (m : List UInt8) : (F.sumOf m).length = 2 := rfl
theorem enc_len (f : F.Fm) : (F.enc f).length = f.p.length + 6 := by
  unfold F.enc
  rw [List.length_cons, List.length_cons, List.length_cons, List.length_cons, List.length_append, sumOf_len]
theorem u8_ofNat {n : Nat} (h : n ≤ 255) : (UInt8.ofNat n).toNat = n := by
  rw [UInt8.toNat_ofNat']; omega
theorem look_enc {f : F.Fm} (h : f.p.length ≤ 64) (m : List UInt8) : F.look (F.enc f ++ m) = .good f (f.p.length + 6) := by
  have e1 : (F.enc f ++ m).getD 1 0 = UInt8.ofNat f.p.length := rfl
  have e2 : ((F.enc f ++ m).getD 1 0).toNat = f.p.length := by rw [e1, u8_ofNat (by omega)]
  have el : (F.enc f ++ m).length = f.p.length + 6 + m.length := by rw [List.length_append, enc_len]
  have t : (F.enc f ++ m) = 253 :: UInt8.ofNat f.p.length :: f.seq :: f.id :: (f.p ++ (F.sumOf (UInt8.ofNat f.p.length :: f.seq :: f.id :: f.p) ++ m)) := by
    unfold F.enc
    simp
  have d4 : (F.enc f ++ m).drop 4 = f.p ++ (F.sumOf (UInt8.ofNat f.p.length :: f.seq :: f.id :: f.p) ++ m) := by rw [t]; rfl
  have p1 : ((F.enc f ++ m).drop 1).take (f.p.length + 3) = UInt8.ofNat f.p.length :: f.seq :: f.id :: f.p := by
    rw [t]
    show UInt8.ofNat f.p.length :: f.seq :: f.id :: ((f.p ++ _).take f.p.length) = _
    rw [List.take_left']
    rfl
  have p2 : ((F.enc f ++ m).drop (f.p.length + 4)).take 2 = F.sumOf (UInt8.ofNat f.p.length :: f.seq :: f.id :: f.p) := by
    rw [Nat.add_comm, ← List.drop_drop, d4, List.drop_left' rfl, List.take_left' (sumOf_len _)]
  have p3 : ((F.enc f ++ m).drop 4).take f.p.length = f.p := by rw [d4, List.take_left' rfl]
  rw [look_end (by omega) (by omega) (by omega), e2, p1, p2, if_pos rfl, p3]
  rw [t]
  rfl
theorem pass_enc (f : F.Fm) (m : List UInt8) : F.pass (F.enc f ++ m) = F.enc f ++ m := rfl
theorem read_enc {f : F.Fm} (h : f.p.length ≤ 64) (m : List UInt8) : F.read (F.enc f ++ m) = ⟨f :: (F.read m).fs, (F.read m).bad, (F.read m).held⟩ := by
  rw [read_good (by rw [pass_enc]; exact look_enc h m), pass_enc, List.drop_left' (enc_len f)]
end Go.Proofs.Ytgbncncmoiadaaa.Ex
