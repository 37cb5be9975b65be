/- VoteHolds: its second loop, in one form. -/
import Derived.Test.YtfjlaplhglfcaaaHoldsEN
namespace Go.Proofs.Ytfjlaplhglfcaaa.Ex
open Go
set_option linter.unusedVariables false
def holds2Sum (fr : Fr) (hp : Hp) : Out := match hp with
  | [b0, b1, .own _ [.bool o0, .int _ x0, .bool o1, .int _ x1, .bool o2, .int _ x2], .own _ [.int _ lo, .int _ hi], b4] => ⟨.exit 2, frHolds3' (F.cnt ⟨o0, x0, o1, x1, o2, x2⟩ lo hi) 3, hp, []⟩
  | _ => ⟨.ret, fr, [], []⟩
theorem holds2_told {stale lo hi : Int} {n : Nat} {cs : List Value} {V : F.V} {o0 o1 o2 : Bool} {x0 x1 x2 : Int} :
    CodeSpec Try.prog 1 holds_loop2 (frHolds3' 0 0) [.ro 38 cs, histB stale n, F.U.blk ⟨o0, x0, o1, x1, o2, x2⟩, spanB lo hi, V.blk stale 0]
      ⟨.exit 2, frHolds3' (F.cnt ⟨o0, x0, o1, x1, o2, x2⟩ lo hi) 3, [.ro 38 cs, histB stale n, F.U.blk ⟨o0, x0, o1, x1, o2, x2⟩, spanB lo hi, V.blk stale 0], []⟩ := by
  have key : ∀ {g : Int}, g = F.cnt ⟨o0, x0, o1, x1, o2, x2⟩ lo hi → Out.le ⟨.exit 2, frHolds3' g 3, [.ro 38 cs, histB stale n, F.U.blk ⟨o0, x0, o1, x1, o2, x2⟩, spanB lo hi, V.blk stale 0], []⟩
      ⟨.exit 2, frHolds3' (F.cnt ⟨o0, x0, o1, x1, o2, x2⟩ lo hi) 3, [.ro 38 cs, histB stale n, F.U.blk ⟨o0, x0, o1, x1, o2, x2⟩, spanB lo hi, V.blk stale 0], []⟩ := fun h => by
    rw [h]; exact ⟨rfl, rfl, rfl, fun j hj => hj⟩
  apply holds_second stale lo hi n cs V ⟨o0, x0, o1, x1, o2, x2⟩
  all_goals
    intro h0 h1 h2
    refine key ?_
    dsimp only at h0 h1 h2
    simp only [F.cnt, h0, h1, h2, if_true, Bool.false_eq_true, if_false]
    generalize F.inS x0 lo hi = b0
    generalize F.inS x1 lo hi = b1
    generalize F.inS x2 lo hi = b2
    cases b0 <;> cases b1 <;> cases b2 <;> rfl
theorem holds2_told0 {stale lo hi : Int} {n : Nat} {V : F.V} {o0 o1 o2 : Bool} {x0 x1 x2 : Int} :
    CodeSpec Try.prog 1 holds_loop2 (frHolds3' 0 0) [.dead, histB stale n, F.U.blk ⟨o0, x0, o1, x1, o2, x2⟩, spanB lo hi, V.blk stale 0]
      ⟨.exit 2, frHolds3' (F.cnt ⟨o0, x0, o1, x1, o2, x2⟩ lo hi) 3, [.dead, histB stale n, F.U.blk ⟨o0, x0, o1, x1, o2, x2⟩, spanB lo hi, V.blk stale 0], []⟩ := by
  have key : ∀ {g : Int}, g = F.cnt ⟨o0, x0, o1, x1, o2, x2⟩ lo hi → Out.le ⟨.exit 2, frHolds3' g 3, [.dead, histB stale n, F.U.blk ⟨o0, x0, o1, x1, o2, x2⟩, spanB lo hi, V.blk stale 0], []⟩
      ⟨.exit 2, frHolds3' (F.cnt ⟨o0, x0, o1, x1, o2, x2⟩ lo hi) 3, [.dead, histB stale n, F.U.blk ⟨o0, x0, o1, x1, o2, x2⟩, spanB lo hi, V.blk stale 0], []⟩ := fun h => by
    rw [h]; exact ⟨rfl, rfl, rfl, fun j hj => hj⟩
  apply holds_second0 stale lo hi n V ⟨o0, x0, o1, x1, o2, x2⟩
  all_goals
    intro h0 h1 h2
    refine key ?_
    dsimp only at h0 h1 h2
    simp only [F.cnt, h0, h1, h2, if_true, Bool.false_eq_true, if_false]
    generalize F.inS x0 lo hi = b0
    generalize F.inS x1 lo hi = b1
    generalize F.inS x2 lo hi = b2
    cases b0 <;> cases b1 <;> cases b2 <;> rfl
theorem holds2_toldN {stale lo hi : Int} {V : F.V} {o0 o1 o2 : Bool} {x0 x1 x2 : Int} :
    CodeSpec Try.prog 1 holds_loop2 (frHolds3' 0 0) [.dead, histN stale, F.U.blk ⟨o0, x0, o1, x1, o2, x2⟩, spanB lo hi, V.blk stale 0]
      ⟨.exit 2, frHolds3' (F.cnt ⟨o0, x0, o1, x1, o2, x2⟩ lo hi) 3, [.dead, histN stale, F.U.blk ⟨o0, x0, o1, x1, o2, x2⟩, spanB lo hi, V.blk stale 0], []⟩ := by
  have key : ∀ {g : Int}, g = F.cnt ⟨o0, x0, o1, x1, o2, x2⟩ lo hi → Out.le ⟨.exit 2, frHolds3' g 3, [.dead, histN stale, F.U.blk ⟨o0, x0, o1, x1, o2, x2⟩, spanB lo hi, V.blk stale 0], []⟩
      ⟨.exit 2, frHolds3' (F.cnt ⟨o0, x0, o1, x1, o2, x2⟩ lo hi) 3, [.dead, histN stale, F.U.blk ⟨o0, x0, o1, x1, o2, x2⟩, spanB lo hi, V.blk stale 0], []⟩ := fun h => by
    rw [h]; exact ⟨rfl, rfl, rfl, fun j hj => hj⟩
  apply holds_secondN stale lo hi V ⟨o0, x0, o1, x1, o2, x2⟩
  all_goals
    intro h0 h1 h2
    refine key ?_
    dsimp only at h0 h1 h2
    simp only [F.cnt, h0, h1, h2, if_true, Bool.false_eq_true, if_false]
    generalize F.inS x0 lo hi = b0
    generalize F.inS x1 lo hi = b1
    generalize F.inS x2 lo hi = b2
    cases b0 <;> cases b1 <;> cases b2 <;> rfl
end Go.Proofs.Ytfjlaplhglfcaaa.Ex
