/- VoteNil: its contract. -/
import Derived.Test.YtfjlaplhglfcaaaExOpen
namespace Go.Proofs.Ytfjlaplhglfcaaa.Ex
open Go
theorem awake_p : go (exec Try.prog 12 11 [] []) [] = some (⟨.bool true, [], []⟩, true, []) := by kernel_rfl
theorem awake_ok : CallSpec Try.prog 11 [] [] ⟨.bool true, [], []⟩ := go_ok (exec_ok tnamed tcalm tmixed _ _ _ _) awake_p all_nil
theorem voteNil_p (o0 : Bool) (x0 : Int) (o1 : Bool) (x1 : Int) (o2 : Bool) (x2 : Int)  : go (exec (Try.prog) (12) (8) ([Value.agg #[Value.bool o0, Value.int IntKind.i64 x0, Value.bool o1, Value.int IntKind.i64 x1, Value.bool o2, Value.int IntKind.i64 x2]]) ([])) [(8, Itm.call (Res.mk (Value.bool true) [] []))] = some (Res.mk (Value.bool true) [] [], true, [CallSpec Try.prog 11 [] [] (Res.mk (Value.bool true) [] [])]) := by kernel_rfl
theorem voteNil_spec (o0 : Bool) (x0 : Int) (o1 : Bool) (x1 : Int) (o2 : Bool) (x2 : Int) : CallSpec Try.prog 8 [Value.agg #[Value.bool o0, Value.int IntKind.i64 x0, Value.bool o1, Value.int IntKind.i64 x1, Value.bool o2, Value.int IntKind.i64 x2]] [] ⟨.bool true, [], []⟩ :=
  go_ok (exec_ok tnamed tcalm tmixed _ _ _ _) (voteNil_p o0 x0 o1 x1 o2 x2) (all_cons awake_ok all_nil)
/-- Three readings, out of a list. -/
theorem three {l : List (Bool × Int)} (h : l.length = 3) : ∃ o0 x0 o1 x1 o2 x2, l = [(o0, x0), (o1, x1), (o2, x2)] := by
  match l, h with
  | [(o0, x0), (o1, x1), (o2, x2)], _ => exact ⟨_, _, _, _, _, _, rfl⟩
theorem voteNil_row (W : World) (b : List (Bool × Int)) (h : b.length = 3) :
    ∃ (args' : List Value) (hp hp' : Hp) (ν : Nu) (args0 : List Value), #[Value.agg (b.flatMap fun a : Bool × Int => [Value.bool a.1] ++ [Value.int .i64 a.2]).toArray] = args'.toArray ∧ L2 (VR ν) args0 args' ∧ Rep Try.prog ν hp W ∧ CallSpec Try.prog 8 args0 hp ⟨.bool true, hp', []⟩ := by
  obtain ⟨o0, x0, o1, x1, o2, x2, rfl⟩ := three h
  exact ⟨_, _, _, _, _, rfl, .cons ((flat_VR (by rfl) _).2 rfl) .nil, rep_none W, voteNil_spec o0 x0 o1 x1 o2 x2⟩
end Go.Proofs.Ytfjlaplhglfcaaa.Ex
