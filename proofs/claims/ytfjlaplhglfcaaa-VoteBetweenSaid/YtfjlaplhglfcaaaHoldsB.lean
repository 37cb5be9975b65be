/- VoteHolds: its first loop. -/
import Derived.Test.YtfjlaplhglfcaaaHoldsA
namespace Go.Proofs.Ytfjlaplhglfcaaa.Ex
open Go
set_option linter.unusedVariables false
def F.U.cells (u : F.U) : List Value := [.bool u.o0, .int .i64 u.x0, .bool u.o1, .int .i64 u.x1, .bool u.o2, .int .i64 u.x2]
def F.hist (stale split : Int) (V : F.V) (T : List F.U) : F.V := T.foldl (F.step stale split) V
theorem hist_fit {stale split : Int} : ∀ {T : List F.U} {V : F.V}, V.fit → (F.hist stale split V T).fit
  | [], V, h => h
  | u :: T, V, h => hist_fit (T := T) (F.fit_step h u)
theorem hist_take {stale split : Int} {V : F.V} {T : List F.U} {j : Nat} {u : F.U} (h : T[j]? = some u) : F.hist stale split V (T.take (j + 1)) = F.step stale split (F.hist stale split V (T.take j)) u := by
  have hj := (List.getElem?_eq_some_iff.1 h).1
  have e : T.take (j + 1) = T.take j ++ [u] := by
    rw [List.take_add_one, h]; rfl
  rw [e]
  unfold F.hist
  rw [List.foldl_append]
  rfl
theorem cells_len : ∀ (T : List F.U), (T.flatMap F.U.cells).length = T.length * 6
  | [] => rfl
  | u :: T => by
    rw [List.flatMap_cons, List.length_append, cells_len T, List.length_cons, Nat.succ_mul]
    simp [F.U.cells]
    omega
theorem cells_at : ∀ {T : List F.U} {j : Nat} {u : F.U}, T[j]? = some u → ((T.flatMap F.U.cells).drop (j * 6)).take 6 = u.cells
  | [], j, u, h => by simp at h
  | v :: T, 0, u, h => by
    simp only [List.getElem?_cons_zero, Option.some.injEq] at h
    subst h
    rfl
  | v :: T, j + 1, u, h => by
    have := cells_at (T := T) (j := j) (u := u) (by simpa using h)
    rw [List.flatMap_cons, Nat.succ_mul]
    have e : j * 6 + 6 = v.cells.length + j * 6 := by simp [F.U.cells]; omega
    rw [e, List.drop_append, List.drop_eq_nil_of_le (by omega), List.nil_append, Nat.add_sub_cancel_left]
    exact this
theorem holds_rounds {stale lo hi : Int} {V : F.V} {now : F.U} {T : List F.U} (hst : 0 ≤ stale ∧ stale ≤ 65534) (hV : V.fit) (hn : T.length ≤ 2932031007403) : ∀ (k j : Nat), j ≤ T.length → T.length - j = k →
    LoopSpec Try.prog 1 holds_loop (frHolds j) [.ro 38 (T.flatMap F.U.cells), histB stale T.length, now.blk, spanB lo hi, (F.hist stale 0 V (T.take j)).blk stale 0]
      ⟨.exit 0, frHolds T.length, [.ro 38 (T.flatMap F.U.cells), histB stale T.length, now.blk, spanB lo hi, (F.hist stale 0 V T).blk stale 0], []⟩
  | 0, j, h1, hk => by
    have : j = T.length := by omega
    subst this
    rw [List.take_length]
    refine .last (holds_round stale lo hi T.length T.length (T.flatMap F.U.cells) _ now ⟨false, 0, false, 0, false, 0⟩ hst (hist_fit hV) hn (cells_len T) ⟨by omega, by omega⟩ (fun h => absurd h (by omega)) _ (fun h => absurd h (by omega)) (fun _ => ⟨rfl, rfl, rfl, fun j hj => hj⟩)) (by intro h; cases h)
  | k + 1, j, h1, hk => by
    obtain ⟨u, hu⟩ : ∃ u, T[j]? = some u := ⟨T[j]'(by omega), by simp⟩
    have e := hist_take (stale := stale) (split := 0) (V := V) hu
    have next := holds_rounds (stale := stale) (lo := lo) (hi := hi) (V := V) (now := now) (T := T) hst hV hn k (j + 1) (by omega) (by omega)
    rw [e] at next
    refine .more (o1 := ⟨.normal, frHolds (j + 1), [.ro 38 (T.flatMap F.U.cells), histB stale T.length, now.blk, spanB lo hi, (F.step stale 0 (F.hist stale 0 V (T.take j)) u).blk stale 0], []⟩)
      (holds_round stale lo hi j T.length (T.flatMap F.U.cells) _ now u hst (hist_fit hV) hn (cells_len T) ⟨by omega, by omega⟩ (fun _ => ?_) _ (fun h => ⟨rfl, rfl, rfl, fun j hj => hj⟩) (fun h => absurd (show (j : Int) < (T.length : Int) by omega) h)) rfl next (fun j hj => by cases hj)
    have := cells_at hu
    rw [Nat.zero_add, Int.toNat_natCast, this]
    rfl
theorem holds_told {stale lo hi : Int} {V : F.V} {o0 o1 o2 : Bool} {x0 x1 x2 : Int} {T : List F.U} (hst : 0 ≤ stale ∧ stale ≤ 65534) (hV : V.fit) (hn : T.length ≤ 2932031007403) :
    CodeSpec Try.prog 1 holds_loopC (frHolds 0) [.ro 38 (T.flatMap F.U.cells), histB stale T.length, F.U.blk ⟨o0, x0, o1, x1, o2, x2⟩, spanB lo hi, V.blk stale 0]
      ⟨.exit 0, frHolds T.length, [.ro 38 (T.flatMap F.U.cells), histB stale T.length, F.U.blk ⟨o0, x0, o1, x1, o2, x2⟩, spanB lo hi, (F.hist stale 0 V T).blk stale 0], []⟩ :=
  (holds_rounds (now := ⟨o0, x0, o1, x1, o2, x2⟩) (V := V) (T := T) hst hV hn T.length 0 (Nat.zero_le _) (by omega)).code
def holdsSum (T : List F.U) (fr : Fr) (hp : Hp) : Out := match hp with
  | [b0, .own 41 [.int k stale, sl], b2, b3, .own _ [_, _, .int _ v0, .int _ v1, .int _ v2, .int _ a0, .int _ a1, .int _ a2, .int _ s]] =>
    ⟨.exit 0, frHolds T.length, [b0, .own 41 [.int k stale, sl], b2, b3, (F.hist stale 0 ⟨v0, v1, v2, a0, a1, a2, s⟩ T).blk stale 0], []⟩
  | _ => ⟨.ret, fr, [], []⟩
def F.inS (n lo hi : Int) : Bool := if n ≥ lo then decide (n ≤ hi) else false
def withinSum (args : List Value) (hp : Hp) : Res := match args with
  | [.int _ n, .agg cs] => match cs.toList with
    | [.int _ lo, .int _ hi] => ⟨.bool (F.inS n lo hi), [], []⟩
    | _ => ⟨undef, [], []⟩
  | _ => ⟨undef, [], []⟩
/-- How many of three lie in a span. -/
def F.cnt (u : F.U) (lo hi : Int) : Int := (if u.o0 = true then (if F.inS u.x0 lo hi = true then 1 else 0) else 0) + (if u.o1 = true then (if F.inS u.x1 lo hi = true then 1 else 0) else 0) + (if u.o2 = true then (if F.inS u.x2 lo hi = true then 1 else 0) else 0)
end Go.Proofs.Ytfjlaplhglfcaaa.Ex
