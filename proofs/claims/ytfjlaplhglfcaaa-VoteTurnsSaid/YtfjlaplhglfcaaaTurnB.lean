/- VoteTurns: the law in numbers, and its loop. -/
import Derived.Test.YtfjlaplhglfcaaaTurnA
namespace Go.Proofs.Ytfjlaplhglfcaaa.Ex
open Go
set_option linter.unusedVariables false
def F.U.rot (u : F.U) : F.U := ⟨u.o1, u.x1, u.o2, u.x2, u.o0, u.x0⟩
theorem lo2_comm (x y : Int) : lo2 y x = lo2 x y := by unfold lo2; split <;> split <;> omega
theorem hi2_comm (x y : Int) : hi2 y x = hi2 x y := by unfold hi2; split <;> split <;> omega
theorem lo3_cyc (x y z : Int) : lo3 y z x = lo3 x y z := by unfold lo3; (repeat' split) <;> omega
theorem hi3_cyc (x y z : Int) : hi3 y z x = hi3 x y z := by unfold hi3; (repeat' split) <;> omega
theorem mid3_cyc (x y z : Int) : mid3 y z x = mid3 x y z := by unfold mid3; (repeat' split) <;> omega
theorem cyc {p0 p1 p2 : Prop} [Decidable p0] [Decidable p1] [Decidable p2] (x y z : Int) :
    F.okOf ((if p1 then [y] else []) ++ ((if p2 then [z] else []) ++ (if p0 then [x] else []))) = F.okOf ((if p0 then [x] else []) ++ ((if p1 then [y] else []) ++ (if p2 then [z] else []))) ∧
    F.xOf ((if p1 then [y] else []) ++ ((if p2 then [z] else []) ++ (if p0 then [x] else []))) = F.xOf ((if p0 then [x] else []) ++ ((if p1 then [y] else []) ++ (if p2 then [z] else []))) ∧
    F.wide ((if p1 then [y] else []) ++ ((if p2 then [z] else []) ++ (if p0 then [x] else []))) = F.wide ((if p0 then [x] else []) ++ ((if p1 then [y] else []) ++ (if p2 then [z] else []))) := by
  by_cases h0 : p0 <;> by_cases h1 : p1 <;> by_cases h2 : p2 <;>
    simp [h0, h1, h2, F.okOf, F.xOf, F.wide, lo2_comm x y, hi2_comm x y, lo2_comm x z, hi2_comm x z, lo3_cyc, hi3_cyc, mid3_cyc]
theorem rot_law (stale split : Int) (V : F.V) (u : F.U) : F.ok stale V.rot u.rot = F.ok stale V u ∧ F.x stale V.rot u.rot = F.x stale V u ∧ F.step stale split V.rot u.rot = (F.step stale split V u).rot := by
  have h := cyc (p0 := F.na u.o0 V.a0 ≤ stale) (p1 := F.na u.o1 V.a1 ≤ stale) (p2 := F.na u.o2 V.a2 ≤ stale) (F.nv u.o0 u.x0 V.v0) (F.nv u.o1 u.x1 V.v1) (F.nv u.o2 u.x2 V.v2)
  refine ⟨h.1, h.2.1, ?_⟩
  have hw : F.wide (F.valid stale V.rot u.rot) = F.wide (F.valid stale V u) := h.2.2
  unfold F.step
  rw [hw]
  rfl
theorem rot2_law (stale split : Int) (V : F.V) (u : F.U) : F.ok stale V.rot2 u.rot.rot = F.ok stale V u ∧ F.x stale V.rot2 u.rot.rot = F.x stale V u ∧ F.step stale split V.rot2 u.rot.rot = (F.step stale split V u).rot2 := by
  obtain ⟨a1, a2, a3⟩ := rot_law stale split V u
  obtain ⟨b1, b2, b3⟩ := rot_law stale split V.rot u.rot
  exact ⟨b1.trans a1, b2.trans a2, by
    have : F.step stale split V.rot2 u.rot.rot = (F.step stale split V.rot u.rot).rot := b3
    rw [this, a3]; rfl⟩
theorem rot_fit {V : F.V} (h : V.fit) : V.rot.fit := ⟨h.a1, h.a2, h.a0, h.s⟩
def F.rotK (k : Int) (V : F.V) : F.V := if k = 1 then V.rot else if k = 2 then V.rot2 else V
section
variable {stale split : Int} {T : List F.U}
theorem turn_one0 (hst : 0 ≤ stale ∧ stale ≤ 65534) (hsp : 0 ≤ split) (hn : T.length ≤ 2932031007403) {V : F.V} (hV : V.fit) {j : Nat} {u : F.U} (hu : T[j]? = some u) :
    CodeSpec Try.prog 1 turn_loop (frTurn 0 j) [.ro 38 (T.flatMap F.U.cells), histB stale T.length, V.blk stale split, V.blk stale split]
      ⟨.normal, frTurn 0 (j + 1), [.ro 38 (T.flatMap F.U.cells), histB stale T.length, (F.step stale split V u).blk stale split, (F.step stale split V u).blk stale split], []⟩ := by
  have hj := (List.getElem?_eq_some_iff.1 hu).1
  have hji : (j : Int) < (T.length : Int) := by omega
  apply turn_round0 stale split j T.length (T.flatMap F.U.cells) V u hst hsp hV hn (cells_len T) ⟨by omega, by omega⟩ (fun _ => by
    have := cells_at hu
    rw [Nat.zero_add, Int.toNat_natCast, this]; rfl)
  all_goals intros
  all_goals first
    | exact ⟨rfl, rfl, rfl, fun j hj => hj⟩
    | (exfalso; simp_all; done)
    | (exfalso; omega)
theorem turn_one1 (hst : 0 ≤ stale ∧ stale ≤ 65534) (hsp : 0 ≤ split) (hn : T.length ≤ 2932031007403) {V : F.V} (hV : V.fit) {j : Nat} {u : F.U} (hu : T[j]? = some u) :
    CodeSpec Try.prog 1 turn_loop (frTurn 1 j) [.ro 38 (T.flatMap F.U.cells), histB stale T.length, V.blk stale split, V.rot.blk stale split]
      ⟨.normal, frTurn 1 (j + 1), [.ro 38 (T.flatMap F.U.cells), histB stale T.length, (F.step stale split V u).blk stale split, (F.step stale split V u).rot.blk stale split], []⟩ := by
  have hj := (List.getElem?_eq_some_iff.1 hu).1
  have hji : (j : Int) < (T.length : Int) := by omega
  obtain ⟨l1, l2, l3⟩ := rot_law stale split V u
  have e : (⟨u.o1, u.x1, u.o2, u.x2, u.o0, u.x0⟩ : F.U) = u.rot := rfl
  apply turn_round1 stale split j T.length (T.flatMap F.U.cells) V u hst hsp hV hn (cells_len T) ⟨by omega, by omega⟩ (fun _ => by
    have := cells_at hu
    rw [Nat.zero_add, Int.toNat_natCast, this]; rfl)
  · intro _ h; rw [e, l1, l2] at h; simp at h
  · intro _ _ h; rw [e, l3] at h; simp [F.V.rot] at h
  · intro _ _ _ h; rw [e, l3] at h; exact absurd rfl h
  · intro _ _ _ _; refine ⟨rfl, rfl, ?_, fun j hj => hj⟩; rw [← l3]; rfl
  · intro h; exact absurd hji h
theorem turn_one2 (hst : 0 ≤ stale ∧ stale ≤ 65534) (hsp : 0 ≤ split) (hn : T.length ≤ 2932031007403) {V : F.V} (hV : V.fit) {j : Nat} {u : F.U} (hu : T[j]? = some u) :
    CodeSpec Try.prog 1 turn_loop (frTurn 2 j) [.ro 38 (T.flatMap F.U.cells), histB stale T.length, V.blk stale split, V.rot2.blk stale split]
      ⟨.normal, frTurn 2 (j + 1), [.ro 38 (T.flatMap F.U.cells), histB stale T.length, (F.step stale split V u).blk stale split, (F.step stale split V u).rot2.blk stale split], []⟩ := by
  have hj := (List.getElem?_eq_some_iff.1 hu).1
  have hji : (j : Int) < (T.length : Int) := by omega
  obtain ⟨l1, l2, l3⟩ := rot2_law stale split V u
  have e : (⟨u.o2, u.x2, u.o0, u.x0, u.o1, u.x1⟩ : F.U) = u.rot.rot := rfl
  apply turn_round2 stale split j T.length (T.flatMap F.U.cells) V u hst hsp hV hn (cells_len T) ⟨by omega, by omega⟩ (fun _ => by
    have := cells_at hu
    rw [Nat.zero_add, Int.toNat_natCast, this]; rfl)
  · intro _ h; rw [e, l1, l2] at h; simp at h
  · intro _ _ h; rw [e, l3] at h; simp [F.V.rot2] at h
  · intro _ _ _ h; rw [e, l3] at h; exact absurd rfl h
  · intro _ _ _ _; refine ⟨rfl, rfl, ?_, fun j hj => hj⟩; rw [← l3]; rfl
  · intro h; exact absurd hji h
theorem turn_rounds {k : Int} {r : F.V → F.V} (hn : T.length ≤ 2932031007403)
    (one : ∀ {V : F.V}, V.fit → ∀ {j : Nat} {u : F.U}, T[j]? = some u → CodeSpec Try.prog 1 turn_loop (frTurn k j) [.ro 38 (T.flatMap F.U.cells), histB stale T.length, V.blk stale split, (r V).blk stale split]
      ⟨.normal, frTurn k (j + 1), [.ro 38 (T.flatMap F.U.cells), histB stale T.length, (F.step stale split V u).blk stale split, (r (F.step stale split V u)).blk stale split], []⟩)
    (last : ∀ {V : F.V}, V.fit → CodeSpec Try.prog 1 turn_loop (frTurn k T.length) [.ro 38 (T.flatMap F.U.cells), histB stale T.length, V.blk stale split, (r V).blk stale split]
      ⟨.exit 0, frTurn k T.length, [.ro 38 (T.flatMap F.U.cells), histB stale T.length, V.blk stale split, (r V).blk stale split], []⟩) {V : F.V} (hV : V.fit) : ∀ (m j : Nat), j ≤ T.length → T.length - j = m →
    LoopSpec Try.prog 1 turn_loop (frTurn k j) [.ro 38 (T.flatMap F.U.cells), histB stale T.length, (F.hist stale split V (T.take j)).blk stale split, (r (F.hist stale split V (T.take j))).blk stale split]
      ⟨.exit 0, frTurn k T.length, [.ro 38 (T.flatMap F.U.cells), histB stale T.length, (F.hist stale split V T).blk stale split, (r (F.hist stale split V T)).blk stale split], []⟩
  | 0, j, h1, hk => by
    have : j = T.length := by omega
    subst this
    rw [List.take_length]
    exact .last (last (hist_fit hV)) (by intro h; cases h)
  | m + 1, j, h1, hk => by
    obtain ⟨u, hu⟩ : ∃ u, T[j]? = some u := ⟨T[j]'(by omega), by simp⟩
    have next := turn_rounds (V := V) hn one last hV m (j + 1) (by omega) (by omega)
    rw [hist_take hu] at next
    exact .more (one (hist_fit hV) hu) rfl next (fun j hj => by cases hj)
theorem turn_told {k : Int} (hk : 0 ≤ k ∧ k ≤ 2) (hst : 0 ≤ stale ∧ stale ≤ 65534) (hsp : 0 ≤ split) (hn : T.length ≤ 2932031007403) :
    CodeSpec Try.prog 1 turn_loopC (frTurn k 0) [.ro 38 (T.flatMap F.U.cells), histB stale T.length, F.V.blk stale split ⟨0, 0, 0, 65535, 65535, 65535, 0⟩, F.V.blk stale split ⟨0, 0, 0, 65535, 65535, 65535, 0⟩]
      ⟨.exit 0, frTurn k T.length, [.ro 38 (T.flatMap F.U.cells), histB stale T.length, (F.hist stale split ⟨0, 0, 0, 65535, 65535, 65535, 0⟩ T).blk stale split, (F.rotK k (F.hist stale split ⟨0, 0, 0, 65535, 65535, 65535, 0⟩ T)).blk stale split], []⟩ := by
  have dummy : F.U := ⟨false, 0, false, 0, false, 0⟩
  have hl : ¬ ((T.length : Int) < (T.length : Int)) := by omega
  have c : k = 0 ∨ k = 1 ∨ k = 2 := by omega
  rcases c with rfl | rfl | rfl
  · exact (turn_rounds (r := fun V => V) hn (fun hV _ _ hu => turn_one0 hst hsp hn hV hu) (fun {V} hV => by
      apply turn_round0 stale split T.length T.length (T.flatMap F.U.cells) V dummy hst hsp hV hn (cells_len T) ⟨by omega, by omega⟩ (fun h => absurd h hl)
      all_goals first
        | (intro _; exact ⟨rfl, rfl, rfl, fun j hj => hj⟩)
        | (intro h; exact absurd h hl)) new_fit T.length 0 (Nat.zero_le _) (by omega)).code
  · exact (turn_rounds (r := F.V.rot) hn (fun hV _ _ hu => turn_one1 hst hsp hn hV hu) (fun {V} hV => by
      apply turn_round1 stale split T.length T.length (T.flatMap F.U.cells) V dummy hst hsp hV hn (cells_len T) ⟨by omega, by omega⟩ (fun h => absurd h hl)
      all_goals first
        | (intro _; exact ⟨rfl, rfl, rfl, fun j hj => hj⟩)
        | (intro h; exact absurd h hl)) new_fit T.length 0 (Nat.zero_le _) (by omega)).code
  · exact (turn_rounds (r := F.V.rot2) hn (fun hV _ _ hu => turn_one2 hst hsp hn hV hu) (fun {V} hV => by
      apply turn_round2 stale split T.length T.length (T.flatMap F.U.cells) V dummy hst hsp hV hn (cells_len T) ⟨by omega, by omega⟩ (fun h => absurd h hl)
      all_goals first
        | (intro _; exact ⟨rfl, rfl, rfl, fun j hj => hj⟩)
        | (intro h; exact absurd h hl)) new_fit T.length 0 (Nat.zero_le _) (by omega)).code
end
def turnSum (T : List F.U) (fr : Fr) (hp : Hp) : Out := match fr.get 11, hp with
  | some (.int _ k), [b0, b1, .own _ [.int _ stale, .int _ split, .int _ v0, .int _ v1, .int _ v2, .int _ a0, .int _ a1, .int _ a2, .int _ s], _] =>
    ⟨.exit 0, frTurn k T.length, [b0, b1, (F.hist stale split ⟨v0, v1, v2, a0, a1, a2, s⟩ T).blk stale split, (F.rotK k (F.hist stale split ⟨v0, v1, v2, a0, a1, a2, s⟩ T)).blk stale split], []⟩
  | _, _ => ⟨.ret, fr, [], []⟩
end Go.Proofs.Ytfjlaplhglfcaaa.Ex
