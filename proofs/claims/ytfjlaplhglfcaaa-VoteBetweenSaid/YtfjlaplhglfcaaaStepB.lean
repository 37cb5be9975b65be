/- Step: its pieces, each in one form. -/
import Derived.Test.YtfjlaplhglfcaaaStepA
import Derived.Test.YtfjlaplhglfcaaaSort
namespace Go.Proofs.Ytfjlaplhglfcaaa.Ex
open Go
set_option linter.unusedVariables false
theorem min_def' (x y : Int) : min x y = if x ≤ y then x else y := by omega
theorem max_def' (x y : Int) : max x y = if x ≤ y then y else x := by omega
def mid3 (x y z : Int) : Int := if x ≤ y then (if z ≤ x then x else if z ≤ y then z else y) else (if z ≤ y then y else if z ≤ x then z else x)
def lo3 (x y z : Int) : Int := if x ≤ y then (if z ≤ x then z else x) else (if z ≤ y then z else y)
def hi3 (x y z : Int) : Int := if x ≤ y then (if z ≤ y then y else z) else (if z ≤ x then x else z)
def lo2 (x y : Int) : Int := if x ≤ y then x else y
def hi2 (x y : Int) : Int := if x ≤ y then y else x
def sortSum (args : List Value) (hp : Hp) : Res := match args, hp with
  | [.slice _ 1 _], [.own _ [.int _ x, .int _ y, .int _ z]] => ⟨.tuple #[], [.own 3 [.int .i64 x, .int .i64 y, .int .i64 z]], [0]⟩
  | [.slice _ 2 _], [.own _ [.int _ x, .int _ y, .int _ z]] => ⟨.tuple #[], [.own 3 [.int .i64 (lo2 x y), .int .i64 (hi2 x y), .int .i64 z]], [0]⟩
  | [.slice _ 3 _], [.own _ [.int _ x, .int _ y, .int _ z]] => ⟨.tuple #[], [.own 3 [.int .i64 (lo3 x y z), .int .i64 (mid3 x y z), .int .i64 (hi3 x y z)]], [0]⟩
  | _, _ => ⟨undef, [], []⟩
theorem sort1_told {x y z : Int} : CallSpec Try.prog 19 [.slice (some ⟨0, 0, none⟩) 1 3] [.own 3 [.int .i64 x, .int .i64 y, .int .i64 z]] ⟨.tuple #[], [.own 3 [.int .i64 x, .int .i64 y, .int .i64 z]], [0]⟩ :=
  sort1 x y z _ ⟨rfl, rfl, by simp⟩
theorem sort2_told {x y z : Int} : CallSpec Try.prog 19 [.slice (some ⟨0, 0, none⟩) 2 3] [.own 3 [.int .i64 x, .int .i64 y, .int .i64 z]] ⟨.tuple #[], [.own 3 [.int .i64 (lo2 x y), .int .i64 (hi2 x y), .int .i64 z]], [0]⟩ := by
  apply sort2 x y z <;> intros <;> refine ⟨rfl, ?_, by simp⟩ <;> simp only [lo2, hi2, List.cons.injEq, Blk.own.injEq, Value.int.injEq, true_and, and_true] <;> omega
theorem sort3_told {x y z : Int} : CallSpec Try.prog 19 [.slice (some ⟨0, 0, none⟩) 3 3] [.own 3 [.int .i64 x, .int .i64 y, .int .i64 z]] ⟨.tuple #[], [.own 3 [.int .i64 (lo3 x y z), .int .i64 (mid3 x y z), .int .i64 (hi3 x y z)]], [0]⟩ := by
  apply sort3 x y z <;> intros <;> refine ⟨rfl, ?_, by simp⟩ <;> simp only [lo3, mid3, hi3, List.cons.injEq, Blk.own.injEq, Value.int.injEq, true_and, and_true] <;> omega
def c2Sum (fr : Fr) (hp : Hp) : Out := match fr.get 5, fr.get 6, fr.get 15, fr.get 34, hp with
  | some v5, some (.int _ i), some u, some (.bool o), [.own _ [st, sp, .int _ v0, .int _ v1, .int _ v2, .int _ a0, .int _ a1, .int _ a2, s], r, vl, .own _ [_, .int _ x]] =>
    ⟨.normal, frOf 122 [(0, at_ 0 0), (4, at_ 1 0), (5, v5), (6, .int .i64 i), (15, u), (16, .int .i64 i)],
      [.own 54 [st, sp, .int .i64 (if i = 0 then (if o = true then x else v0) else v0), .int .i64 (if i = 1 then (if o = true then x else v1) else v1), .int .i64 (if i = 2 then (if o = true then x else v2) else v2),
        .int .i64 (if i = 0 then (if o = true then 0 else a0) else a0), .int .i64 (if i = 1 then (if o = true then 0 else a1) else a1), .int .i64 (if i = 2 then (if o = true then 0 else a2) else a2), s], r, vl], [0]⟩
  | _, _, _, _, _ => ⟨.ret, fr, [], []⟩
section
variable {stale split v0 v1 v2 a0 a1 a2 s : Int} {o0 o1 o2 : Bool} {x0 x1 x2 : Int} {n : Nat} {c0 c1 c2 : Int}
theorem c2_0_told : CodeSpec Try.prog 1 step_c2 (frC2 0 n (units o0 x0 o1 x1 o2 x2) o0) [voter stale split v0 v1 v2 a0 a1 a2 s, reading false 0, three3 c0 c1 c2, reading o0 x0]
    ⟨.normal, frC2' 0 n (units o0 x0 o1 x1 o2 x2), [voter stale split (if o0 = true then x0 else v0) v1 v2 (if o0 = true then 0 else a0) a1 a2 s, reading false 0, three3 c0 c1 c2], [0]⟩ := by
  apply step_c2_0 <;> intro h <;> refine ⟨rfl, rfl, ?_, by simp⟩ <;> simp [voter, reading, three3, h]
theorem c2_1_told : CodeSpec Try.prog 1 step_c2 (frC2 1 n (units o0 x0 o1 x1 o2 x2) o1) [voter stale split v0 v1 v2 a0 a1 a2 s, reading false 0, three3 c0 c1 c2, reading o1 x1]
    ⟨.normal, frC2' 1 n (units o0 x0 o1 x1 o2 x2), [voter stale split v0 (if o1 = true then x1 else v1) v2 a0 (if o1 = true then 0 else a1) a2 s, reading false 0, three3 c0 c1 c2], [0]⟩ := by
  apply step_c2_1 <;> intro h <;> refine ⟨rfl, rfl, ?_, by simp⟩ <;> simp [voter, reading, three3, h]
theorem c2_2_told : CodeSpec Try.prog 1 step_c2 (frC2 2 n (units o0 x0 o1 x1 o2 x2) o2) [voter stale split v0 v1 v2 a0 a1 a2 s, reading false 0, three3 c0 c1 c2, reading o2 x2]
    ⟨.normal, frC2' 2 n (units o0 x0 o1 x1 o2 x2), [voter stale split v0 v1 (if o2 = true then x2 else v2) a0 a1 (if o2 = true then 0 else a2) s, reading false 0, three3 c0 c1 c2], [0]⟩ := by
  apply step_c2_2 <;> intro h <;> refine ⟨rfl, rfl, ?_, by simp⟩ <;> simp [voter, reading, three3, h]
def c5Sum (fr : Fr) (hp : Hp) : Out := match fr.get 5, fr.get 8, fr.get 9, fr.get 92, hp with
  | some v5, some v8, some v9, some (.bool b), [.own _ [st, sp, v0, v1, v2, a0, a1, a2, .int _ s], r, vl] =>
    ⟨.normal, frOf 122 [(0, at_ 0 0), (4, at_ 1 0), (5, v5), (8, v8), (9, v9)], [.own 54 [st, sp, v0, v1, v2, a0, a1, a2, .int .i64 (if b = true then (if 65535 < s + 1 then 65535 else s + 1) else s)], r, vl], [0]⟩
  | _, _, _, _, _ => ⟨.ret, fr, [], []⟩
theorem c5_told {lo hi : Int} {b : Bool} (hs : 0 ≤ s ∧ s ≤ 65535) : CodeSpec Try.prog 1 step_c5 (frC5 n lo hi b) [voter stale split v0 v1 v2 a0 a1 a2 s, reading false 0, three3 c0 c1 c2]
    ⟨.normal, frC5' n lo hi, [voter stale split v0 v1 v2 a0 a1 a2 (if b = true then (if 65535 < s + 1 then 65535 else s + 1) else s), reading false 0, three3 c0 c1 c2], [0]⟩ := by
  apply step_c5_ok (hs := hs) <;> intro h <;> refine ⟨rfl, rfl, ?_, by simp⟩ <;> simp [voter, reading, three3, h]
end
end Go.Proofs.Ytfjlaplhglfcaaa.Ex
