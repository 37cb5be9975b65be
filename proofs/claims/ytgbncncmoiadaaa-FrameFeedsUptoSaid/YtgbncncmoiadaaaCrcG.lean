/- Sum: the program's and the reference's give the same number. -/
import Derived.Test.YtgbncncmoiadaaaCrcF
namespace Go.Proofs.Ytgbncncmoiadaaa.Ex
open Go
set_option linter.unusedVariables false
def F.byte (s : ByteArray) (n : Nat) : UInt8 := s.data.toList.getD n 0
/-- The sum of the first bytes. -/
def F.sumTo (s : ByteArray) (n : Nat) : Int := (s.data.toList.take n).foldl (fun c b => F.add c ((b.toNat : Nat) : Int)) 65535
def F.sum (s : ByteArray) : Int := F.sumTo s s.size
theorem fold_u16 : ∀ (l : List UInt8) {c : Int}, F.u16 c → F.u16 (l.foldl (fun c b => F.add c ((b.toNat : Nat) : Int)) c)
  | [], _, h => h
  | b :: l, c, _ => fold_u16 l (add_u16 c _)
theorem sumTo_u16 (s : ByteArray) (n : Nat) : F.u16 (F.sumTo s n) := fold_u16 _ (by unfold F.u16; omega)
theorem sum_u16 (s : ByteArray) : F.u16 (F.sum s) := sumTo_u16 s _
theorem size_list (s : ByteArray) : s.data.toList.length = s.size := Array.length_toList
theorem sumTo_succ {s : ByteArray} {n : Nat} (h : n < s.size) : F.sumTo s (n + 1) = F.add (F.sumTo s n) (((F.byte s n).toNat : Nat) : Int) := by
  have hn : n < s.data.toList.length := by rw [size_list]; exact h
  unfold F.sumTo F.byte
  rw [List.take_add_one, List.getD_eq_getElem?_getD, List.getElem?_eq_getElem hn, List.foldl_append]
  rfl
theorem rsum_rounds {s : ByteArray} (hs : s.size ≤ 9223372036854775806) : ∀ (k j : Nat), j ≤ s.size → s.size - j = k → LoopSpec Try.prog 0 rsum_loop (frRsum s (F.sumTo s j) j) [] ⟨.exit 0, frRsum s (F.sum s) s.size, [], []⟩
  | 0, j, h1, hk => by
    have : j = s.size := by omega
    subst this
    exact .last (rsum_round s _ _ (sumTo_u16 s _) hs ⟨by omega, by omega⟩ _ (fun h => absurd h (by omega)) (fun _ => ⟨rfl, rfl, rfl, fun j hj => hj⟩)) (by intro h; cases h)
  | k + 1, j, h1, hk => by
    have next := rsum_rounds hs k (j + 1) (by omega) (by omega)
    rw [sumTo_succ (by omega)] at next
    exact .more (o1 := ⟨.normal, frRsum s (F.add (F.sumTo s j) (((F.byte s j).toNat : Nat) : Int)) ((j + 1 : Nat) : Int), [], []⟩) (rsum_round s _ _ (sumTo_u16 s _) hs ⟨by omega, by omega⟩ _ (fun _ => ⟨rfl, rfl, rfl, fun j hj => hj⟩) (fun h => absurd (show (j : Int) < (s.size : Int) by omega) h)) rfl next (fun j hj => by cases hj)
theorem psum_rounds {s : ByteArray} (hs : s.size ≤ 9223372036854775806) : ∀ (k j : Nat), j ≤ s.size → s.size - j = k → LoopSpec Try.prog 0 psum_loop (frPsum s (F.sumTo s j) s.size j) [] ⟨.exit 0, frPsum s (F.sum s) s.size s.size, [], []⟩
  | 0, j, h1, hk => by
    have : j = s.size := by omega
    subst this
    exact .last (psum_round s _ _ (sumTo_u16 s _) hs ⟨by omega, by omega⟩ _ (fun h => absurd h (by omega)) (fun _ => ⟨rfl, rfl, rfl, fun j hj => hj⟩)) (by intro h; cases h)
  | k + 1, j, h1, hk => by
    have next := psum_rounds hs k (j + 1) (by omega) (by omega)
    rw [sumTo_succ (by omega)] at next
    exact .more (o1 := ⟨.normal, frPsum s (F.add (F.sumTo s j) (((F.byte s j).toNat : Nat) : Int)) s.size ((j + 1 : Nat) : Int), [], []⟩) (psum_round s _ _ (sumTo_u16 s _) hs ⟨by omega, by omega⟩ _ (fun _ => ⟨rfl, rfl, rfl, fun j hj => hj⟩) (fun h => absurd (show (j : Int) < (s.size : Int) by omega) h)) rfl next (fun j hj => by cases hj)
theorem rsum_told {s : ByteArray} (hs : s.size ≤ 9223372036854775806) : CodeSpec Try.prog 0 rsum_loopC (frRsum s 65535 0) [] ⟨.exit 0, frRsum s (F.sum s) s.size, [], []⟩ := (rsum_rounds hs s.size 0 (Nat.zero_le _) (by omega)).code
theorem psum_told {s : ByteArray} (hs : s.size ≤ 9223372036854775806) : CodeSpec Try.prog 0 psum_loopC (frPsum s 65535 s.size 0) [] ⟨.exit 0, frPsum s (F.sum s) s.size s.size, [], []⟩ := (psum_rounds hs s.size 0 (Nat.zero_le _) (by omega)).code
def rsumSum (fr : Fr) (hp : Hp) : Out := match fr.get 0 with
  | some (.string s) => ⟨.exit 0, frRsum s (F.sum s) s.size, [], []⟩
  | _ => ⟨.ret, fr, [], []⟩
def psumSum (fr : Fr) (hp : Hp) : Out := match fr.get 0 with
  | some (.string s) => ⟨.exit 0, frPsum s (F.sum s) s.size s.size, [], []⟩
  | _ => ⟨.ret, fr, [], []⟩
def sumSum (args : List Value) (hp : Hp) : Res := match args with
  | [.string s] => ⟨.int .u16 (F.sum s), [], []⟩
  | _ => ⟨undef, [], []⟩
end Go.Proofs.Ytgbncncmoiadaaa.Ex
