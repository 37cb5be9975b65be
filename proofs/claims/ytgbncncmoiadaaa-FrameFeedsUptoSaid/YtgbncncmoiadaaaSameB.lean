/- Same: its loop. -/
import Derived.Test.YtgbncncmoiadaaaSameA
namespace Go.Proofs.Ytgbncncmoiadaaa.Ex
open Go
set_option linter.unusedVariables false
/-- From a place on, the cells are these frames. -/
def Holds3 (cs : List Value) (o : Nat) (fs : List F.Fm) : Prop := ∀ j f, fs[j]? = some f → o + j * 3 + 3 ≤ cs.length ∧ (cs.drop (o + j * 3)).take 3 = f.cells
theorem holds3_cells (pre fs : List F.Fm) : Holds3 (F.cells (pre ++ fs)) (pre.length * 3) fs := by
  induction pre with
  | nil =>
    intro j f h
    rw [List.nil_append, List.length_nil, Nat.zero_mul, Nat.zero_add]
    induction fs generalizing j with
    | nil => simp at h
    | cons g fs ih =>
      cases j with
      | zero =>
        simp only [List.getElem?_cons_zero, Option.some.injEq] at h
        subst h
        rw [cells_length, Nat.zero_mul]
        refine ⟨by simp; omega, ?_⟩
        rfl
      | succ j =>
        have := ih j (by simpa using h)
        rw [cells_length] at this ⊢
        rw [List.length_cons]
        refine ⟨by omega, ?_⟩
        rw [cells_cons, show (j + 1) * 3 = g.cells.length + j * 3 from by simp [F.Fm.cells]; omega, List.drop_append, List.drop_eq_nil_of_le (by omega), List.nil_append, Nat.add_sub_cancel_left]
        exact this.2
  | cons g pre ih =>
    intro j f h
    have := ih j f h
    rw [cells_length] at this ⊢
    rw [List.cons_append, List.length_cons, List.length_cons]
    refine ⟨by omega, ?_⟩
    rw [cells_cons, show (pre.length + 1) * 3 + j * 3 = g.cells.length + (pre.length * 3 + j * 3) from by simp [F.Fm.cells]; omega, List.drop_append, List.drop_eq_nil_of_le (by omega), List.nil_append, Nat.add_sub_cancel_left]
    exact this.2
theorem holds3_all (fs : List F.Fm) : Holds3 (F.cells fs) 0 fs := by
  have := holds3_cells [] fs
  rw [List.nil_append, List.length_nil, Nat.zero_mul] at this
  exact this
theorem str_same (p : ByteArray) : (p == p) = true := by
  show (p.data == p.data) = true
  exact beq_self_eq_true _
theorem same_rounds {fs : List F.Fm} {cs ds : List Value} {o0 o1 c0 c1 : Nat} (hn : fs.length ≤ 4398046510000) (hc : Holds3 cs o0 fs) (hd : Holds3 ds o1 fs) : ∀ (k j : Nat), j ≤ fs.length → fs.length - j = k →
    LoopSpec Try.prog 2 same_loop (frSame fs.length o0 o1 c0 c1 j) [.own 23 cs, .own 23 ds] ⟨.exit 0, frSame fs.length o0 o1 c0 c1 fs.length, [.own 23 cs, .own 23 ds], []⟩
  | 0, j, h1, hk => by
    obtain rfl : j = fs.length := by omega
    exact .last (same_round fs.length o0 o1 c0 c1 cs ds fs.length 0 0 ⟨#[]⟩ ⟨by omega, by omega⟩ hn (fun h => absurd h (by omega)) (fun h => absurd h (by omega)) (fun h => absurd h (by omega)) (fun h => absurd h (by omega)) _ (fun h => absurd h (by omega)) (fun h => absurd h (by omega)) (fun _ => ⟨rfl, rfl, rfl, fun j hj => hj⟩)) (by intro h; cases h)
  | k + 1, j, h1, hk => by
    obtain ⟨f, hf⟩ : ∃ f, fs[j]? = some f := ⟨fs[j]'(by omega), by simp⟩
    have e1 := hc j f hf
    have e2 := hd j f hf
    have next := same_rounds (c0 := c0) (c1 := c1) hn hc hd k (j + 1) (by omega) (by omega)
    refine .more (o1 := ⟨.normal, frSame fs.length o0 o1 c0 c1 ((j : Int) + 1), [.own 23 cs, .own 23 ds], []⟩) (same_round fs.length o0 o1 c0 c1 cs ds j ((f.seq.toNat : Nat) : Int) ((f.id.toNat : Nat) : Int) (F.str f.p) ⟨by omega, by omega⟩ hn (fun _ => by rw [Int.toNat_natCast]; exact e1.1) (fun _ => by rw [Int.toNat_natCast]; exact e2.1) (fun _ => by rw [Int.toNat_natCast, e1.2]; rfl) (fun _ => by rw [Int.toNat_natCast, e2.2]; rfl) _ (fun _ h => ?_) (fun _ _ => ⟨rfl, rfl, rfl, fun j hj => hj⟩) (fun h => absurd (show (j : Int) < (fs.length : Int) by omega) h)) rfl next (fun j hj => by cases hj)
    exact absurd h (by simp [str_same])
theorem same_told {fs : List F.Fm} {cs ds : List Value} {o0 o1 c0 c1 : Nat} (hn : fs.length ≤ 4398046510000) (hc : Holds3 cs o0 fs) (hd : Holds3 ds o1 fs) :
    CodeSpec Try.prog 2 same_loopC (frSame fs.length o0 o1 c0 c1 0) [.own 23 cs, .own 23 ds] ⟨.exit 0, frSame fs.length o0 o1 c0 c1 fs.length, [.own 23 cs, .own 23 ds], []⟩ := (same_rounds hn hc hd fs.length 0 (Nat.zero_le _) (by omega)).code
def sameLSum (fr : Fr) (hp : Hp) : Out := match fr.get 0, fr.get 1 with
  | some (.slice (some ⟨_, o0, _⟩) n c0), some (.slice (some ⟨_, o1, _⟩) _ c1) => ⟨.exit 0, frSame n o0 o1 c0 c1 n, hp, []⟩
  | _, _ => ⟨.ret, fr, [], []⟩
end Go.Proofs.Ytgbncncmoiadaaa.Ex
