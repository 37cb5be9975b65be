/- What Step does, said in numbers. -/
import Derived.Test.YtfjlaplhglfcaaaStepC
namespace Go.Proofs.Ytfjlaplhglfcaaa.Ex
open Go
set_option linter.unusedVariables false
/-- What a voter keeps of the units. -/
structure F.V where
  v0 : Int
  v1 : Int
  v2 : Int
  a0 : Int
  a1 : Int
  a2 : Int
  s : Int
/-- What three units say. -/
structure F.U where
  o0 : Bool
  x0 : Int
  o1 : Bool
  x1 : Int
  o2 : Bool
  x2 : Int
def F.up (a : Int) : Int := if 65535 < a + 1 then 65535 else a + 1
def F.nv (o : Bool) (x v : Int) : Int := if o = true then x else v
def F.na (o : Bool) (a : Int) : Int := if o = true then 0 else F.up a
def F.gap (lo hi : Int) : Int := IntKind.u64.wrap (IntKind.u64.wrap hi - IntKind.u64.wrap lo)
def F.midw (lo hi : Int) : Int := IntKind.i64.wrap (lo + IntKind.i64.wrap (IntKind.u64.wrap (Int.tdiv (F.gap lo hi) 2)))
/-- The values that vote. -/
def F.valid (stale : Int) (V : F.V) (u : F.U) : List Int :=
  (if F.na u.o0 V.a0 ≤ stale then [F.nv u.o0 u.x0 V.v0] else []) ++ ((if F.na u.o1 V.a1 ≤ stale then [F.nv u.o1 u.x1 V.v1] else []) ++ (if F.na u.o2 V.a2 ≤ stale then [F.nv u.o2 u.x2 V.v2] else []))
def F.okOf : List Int → Bool
  | [] => false
  | _ => true
def F.xOf : List Int → Int
  | [x] => x
  | [x, y] => F.midw (lo2 x y) (hi2 x y)
  | [x, y, z] => mid3 x y z
  | _ => 0
def F.wide : List Int → Int
  | [x, y] => F.gap (lo2 x y) (hi2 x y)
  | [x, y, z] => F.gap (lo3 x y z) (hi3 x y z)
  | _ => 0
def F.ok (stale : Int) (V : F.V) (u : F.U) : Bool := F.okOf (F.valid stale V u)
def F.x (stale : Int) (V : F.V) (u : F.U) : Int := F.xOf (F.valid stale V u)
def F.step (stale split : Int) (V : F.V) (u : F.U) : F.V :=
  ⟨F.nv u.o0 u.x0 V.v0, F.nv u.o1 u.x1 V.v1, F.nv u.o2 u.x2 V.v2, F.na u.o0 V.a0, F.na u.o1 V.a1, F.na u.o2 V.a2, if F.wide (F.valid stale V u) > split then F.up V.s else V.s⟩
def F.V.blk (stale split : Int) (V : F.V) : Blk := .own 54 [.int .i64 stale, .int .u64 split, .int .i64 V.v0, .int .i64 V.v1, .int .i64 V.v2, .int .i64 V.a0, .int .i64 V.a1, .int .i64 V.a2, .int .i64 V.s]
def F.U.val (u : F.U) : Value := .agg #[.bool u.o0, .int .i64 u.x0, .bool u.o1, .int .i64 u.x1, .bool u.o2, .int .i64 u.x2]
def F.age (a : Int) : Prop := 0 ≤ a ∧ a ≤ 65535
structure F.V.fit (V : F.V) : Prop where
  a0 : F.age V.a0
  a1 : F.age V.a1
  a2 : F.age V.a2
  s : F.age V.s
theorem F.na_age (o : Bool) {a : Int} (h : F.age a) : F.age (F.na o a) := by
  unfold F.age F.na F.up at *
  split
  · omega
  · split <;> omega
theorem F.fit_step {stale split : Int} {V : F.V} (h : V.fit) (u : F.U) : (F.step stale split V u).fit := by
  refine ⟨F.na_age _ h.a0, F.na_age _ h.a1, F.na_age _ h.a2, ?_⟩
  have := h.s
  unfold F.step F.age F.up at *
  simp only
  split
  · split <;> omega
  · omega
def stepSum (args : List Value) (hp : Hp) : Res := match args, hp with
  | [_, .agg cs], [.own _ [.int _ stale, .int _ split, .int _ v0, .int _ v1, .int _ v2, .int _ a0, .int _ a1, .int _ a2, .int _ s]] =>
    match cs.toList with
    | [.bool o0, .int _ x0, .bool o1, .int _ x1, .bool o2, .int _ x2] =>
      ⟨.agg #[.bool (F.ok stale ⟨v0, v1, v2, a0, a1, a2, s⟩ ⟨o0, x0, o1, x1, o2, x2⟩), .int .i64 (F.x stale ⟨v0, v1, v2, a0, a1, a2, s⟩ ⟨o0, x0, o1, x1, o2, x2⟩)], [(F.step stale split ⟨v0, v1, v2, a0, a1, a2, s⟩ ⟨o0, x0, o1, x1, o2, x2⟩).blk stale split], [0]⟩
    | _ => ⟨undef, [], []⟩
  | _, _ => ⟨undef, [], []⟩
theorem step_told {stale split : Int} {V : F.V} {u : F.U} (hst : 0 ≤ stale ∧ stale ≤ 65534) (hsp : 0 ≤ split) (hV : V.fit) : CallSpec Try.prog 14 [at_ 0 0, u.val] [V.blk stale split]
    ⟨.agg #[.bool (F.ok stale V u), .int .i64 (F.x stale V u)], [(F.step stale split V u).blk stale split], [0]⟩ := by
  obtain ⟨v0, v1, v2, a0, a1, a2, s⟩ := V
  obtain ⟨o0, x0, o1, x1, o2, x2⟩ := u
  have n0 : ¬ (0 : Int) > split := by omega
  have fin : ∀ {l : List Value} {h : Hp} {w : List Nat} {l' : List Value} {h' : Hp}, l = l' → h = h' → (∀ j, j ∈ w → j = 0) → Res.le ⟨.agg l.toArray, h, w⟩ ⟨.agg l'.toArray, h', [0]⟩ := fun h1 h2 h3 => by
    subst h1; subst h2
    exact ⟨rfl, rfl, fun j hj => by simp [h3 j hj]⟩
  apply step_ok stale split v0 v1 v2 a0 a1 a2 s o0 x0 o1 x1 o2 x2 hst hV.a0 hV.a1 hV.a2 hV.s
  all_goals
    intro h0 h1 h2
    refine fin ?_ ?_ (by intro j hj; simpa using hj) <;>
      (simp only [F.ok, F.x, F.step, F.valid, F.V.blk, F.na, F.up, h0, h1, h2, if_true, if_false, List.append_nil, List.nil_append, List.cons_append, F.okOf, F.xOf, F.wide, decide_eq_true_eq, Int.sub_self, n0] <;> first | done | rfl)
theorem step_told' {stale split : Int} {V : F.V} {o0 o1 o2 : Bool} {x0 x1 x2 : Int} (hst : 0 ≤ stale ∧ stale ≤ 65534) (hsp : 0 ≤ split) (hV : V.fit) : CallSpec Try.prog 14 [at_ 0 0, .agg #[.bool o0, .int .i64 x0, .bool o1, .int .i64 x1, .bool o2, .int .i64 x2]] [V.blk stale split]
    ⟨.agg #[.bool (F.ok stale V ⟨o0, x0, o1, x1, o2, x2⟩), .int .i64 (F.x stale V ⟨o0, x0, o1, x1, o2, x2⟩)], [(F.step stale split V ⟨o0, x0, o1, x1, o2, x2⟩).blk stale split], [0]⟩ := step_told (u := ⟨o0, x0, o1, x1, o2, x2⟩) hst hsp hV
end Go.Proofs.Ytfjlaplhglfcaaa.Ex
