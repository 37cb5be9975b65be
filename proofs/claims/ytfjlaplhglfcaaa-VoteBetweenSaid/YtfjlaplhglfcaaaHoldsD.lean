/- VoteHolds: its pieces, each in one form. -/
import Derived.Test.YtfjlaplhglfcaaaHoldsC
namespace Go.Proofs.Ytfjlaplhglfcaaa.Ex
open Go
set_option linter.unusedVariables false
theorem within_told {n lo hi : Int} : CallSpec Try.prog 16 [.int .i64 n, .agg #[.int .i64 lo, .int .i64 hi]] [] ⟨.bool (F.inS n lo hi), [], []⟩ := by
  apply within_ok n lo hi
  · intro h
    exact ⟨by simp only [F.inS, if_pos h], rfl, fun j hj => hj⟩
  · intro h
    exact ⟨by simp only [F.inS, if_neg h], rfl, fun j hj => hj⟩
def c3Sum (fr : Fr) (hp : Hp) : Out := match fr.get 10, fr.get 11, fr.get 69 with
  | some (.int _ g), some (.int _ k), some (.bool b) => ⟨.normal, frHolds3' (if b = true then g + 1 else g) k, hp, []⟩
  | _, _, _ => ⟨.ret, fr, [], []⟩
theorem c3_told {stale lo hi g k : Int} {b : Bool} {n : Nat} {cs : List Value} {V : F.V} {o0 o1 o2 : Bool} {x0 x1 x2 : Int} (hg : 0 ≤ g ∧ g ≤ 3) :
    CodeSpec Try.prog 1 holds_c3 (frHolds3 g k b) [.ro 38 cs, histB stale n, F.U.blk ⟨o0, x0, o1, x1, o2, x2⟩, spanB lo hi, V.blk stale 0]
      ⟨.normal, frHolds3' (if b = true then g + 1 else g) k, [.ro 38 cs, histB stale n, F.U.blk ⟨o0, x0, o1, x1, o2, x2⟩, spanB lo hi, V.blk stale 0], []⟩ := by
  apply holds_c3_ok stale lo hi g k b n cs V ⟨o0, x0, o1, x1, o2, x2⟩ hg
  · intro h
    exact ⟨rfl, by rw [if_pos h]; rfl, rfl, fun j hj => hj⟩
  · intro h
    exact ⟨rfl, by rw [if_neg h]; rfl, rfl, fun j hj => hj⟩
theorem c3_told0 {stale lo hi g k : Int} {b : Bool} {n : Nat} {V : F.V} {o0 o1 o2 : Bool} {x0 x1 x2 : Int} (hg : 0 ≤ g ∧ g ≤ 3) :
    CodeSpec Try.prog 1 holds_c3 (frHolds3 g k b) [.dead, histB stale n, F.U.blk ⟨o0, x0, o1, x1, o2, x2⟩, spanB lo hi, V.blk stale 0]
      ⟨.normal, frHolds3' (if b = true then g + 1 else g) k, [.dead, histB stale n, F.U.blk ⟨o0, x0, o1, x1, o2, x2⟩, spanB lo hi, V.blk stale 0], []⟩ := by
  apply holds_c3_ok0 stale lo hi g k b n V ⟨o0, x0, o1, x1, o2, x2⟩ hg
  · intro h
    exact ⟨rfl, by rw [if_pos h]; rfl, rfl, fun j hj => hj⟩
  · intro h
    exact ⟨rfl, by rw [if_neg h]; rfl, rfl, fun j hj => hj⟩
theorem c3_toldN {stale lo hi g k : Int} {b : Bool} {V : F.V} {o0 o1 o2 : Bool} {x0 x1 x2 : Int} (hg : 0 ≤ g ∧ g ≤ 3) :
    CodeSpec Try.prog 1 holds_c3 (frHolds3 g k b) [.dead, histN stale, F.U.blk ⟨o0, x0, o1, x1, o2, x2⟩, spanB lo hi, V.blk stale 0]
      ⟨.normal, frHolds3' (if b = true then g + 1 else g) k, [.dead, histN stale, F.U.blk ⟨o0, x0, o1, x1, o2, x2⟩, spanB lo hi, V.blk stale 0], []⟩ := by
  apply holds_c3_okN stale lo hi g k b V ⟨o0, x0, o1, x1, o2, x2⟩ hg
  · intro h
    exact ⟨rfl, by rw [if_pos h]; rfl, rfl, fun j hj => hj⟩
  · intro h
    exact ⟨rfl, by rw [if_neg h]; rfl, rfl, fun j hj => hj⟩
end Go.Proofs.Ytfjlaplhglfcaaa.Ex
