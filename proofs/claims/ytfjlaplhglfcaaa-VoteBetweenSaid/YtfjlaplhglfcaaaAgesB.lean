/- VoteAges: its loop. -/
import Derived.Test.YtfjlaplhglfcaaaAgesA
namespace Go.Proofs.Ytfjlaplhglfcaaa.Ex
open Go
set_option linter.unusedVariables false
def F.silent : F.U := ⟨false, 77, false, 77, false, 77⟩
/-- The voter, and its word, q silent ticks behind the one in which unit 0 spoke. -/
def F.aV (x q : Int) : F.V := ⟨x, 0, 0, if q ≤ 65535 then q else 65535, 65535, 65535, 0⟩
def F.aOk (stale q : Int) : Bool := decide ((if q ≤ 65535 then q else 65535) ≤ stale)
def F.aX (stale x q : Int) : Int := if (if q ≤ 65535 then q else 65535) ≤ stale then x else 0
theorem aV_fit {x q : Int} (hq : 0 ≤ q) : (F.aV x q).fit := by
  refine ⟨?_, ?_, ?_, ?_⟩ <;> simp only [F.aV, F.age] <;> (try split) <;> omega
theorem aV_valid {stale x q : Int} (hst : 0 ≤ stale ∧ stale ≤ 65534) (hq : 0 ≤ q) : F.valid stale (F.aV x q) F.silent = if (if q + 1 ≤ 65535 then q + 1 else 65535) ≤ stale then [x] else [] := by
  have e0 : F.na false (if q ≤ 65535 then q else 65535) = if q + 1 ≤ 65535 then q + 1 else 65535 := by
    simp only [F.na, F.up, Bool.false_eq_true, if_false]
    split <;> split <;> (try split) <;> omega
  have e1 : ¬ F.na false 65535 ≤ stale := by
    simp only [F.na, F.up, Bool.false_eq_true, if_false]
    split <;> omega
  simp only [F.valid, F.aV, F.silent, e0, e1, if_false, List.append_nil, F.nv, Bool.false_eq_true]
theorem aV_step {stale x q : Int} (hst : 0 ≤ stale ∧ stale ≤ 65534) (hq : 0 ≤ q) :
    F.step stale 0 (F.aV x q) F.silent = F.aV x (q + 1) ∧ F.ok stale (F.aV x q) F.silent = F.aOk stale (q + 1) ∧ F.x stale (F.aV x q) F.silent = F.aX stale x (q + 1) := by
  have e0 : F.na false (if q ≤ 65535 then q else 65535) = if q + 1 ≤ 65535 then q + 1 else 65535 := by
    simp only [F.na, F.up, Bool.false_eq_true, if_false]
    split <;> split <;> (try split) <;> omega
  have e1 : F.na false 65535 = 65535 := by
    simp only [F.na, F.up, Bool.false_eq_true, if_false]
    split <;> omega
  have hv := aV_valid (x := x) hst hq
  refine ⟨?_, ?_, ?_⟩
  · have hw : ¬ F.wide (F.valid stale (F.aV x q) F.silent) > 0 := by
      rw [hv]
      by_cases h : (if q + 1 ≤ 65535 then q + 1 else 65535) ≤ stale
      · rw [if_pos h]; simp [F.wide]
      · rw [if_neg h]; simp [F.wide]
    unfold F.step
    rw [if_neg hw]
    simp only [F.aV, F.silent, e0, e1, F.nv, Bool.false_eq_true, if_false]
  · unfold F.ok F.aOk
    rw [hv]
    by_cases h : (if q + 1 ≤ 65535 then q + 1 else 65535) ≤ stale
    · rw [if_pos h, decide_eq_true h]; rfl
    · rw [if_neg h, decide_eq_false h]; rfl
  · unfold F.x F.aX
    rw [hv]
    by_cases h : (if q + 1 ≤ 65535 then q + 1 else 65535) ≤ stale
    · rw [if_pos h, if_pos h]; rfl
    · rw [if_neg h, if_neg h]; rfl
theorem ages_rounds {stale quiet x : Int} (hst : 0 ≤ stale ∧ stale ≤ 65534) (hq : quiet ≤ 131072) : ∀ (k : Nat) (i : Int), 0 ≤ i → i ≤ quiet → quiet - i = k →
    LoopSpec Try.prog 0 ages_loop (frAges stale quiet x i) [(F.aV x i).blk stale 0, reading (F.aOk stale i) (F.aX stale x i)]
      ⟨.exit 0, frAges stale quiet x quiet, [(F.aV x quiet).blk stale 0, reading (F.aOk stale quiet) (F.aX stale x quiet)], []⟩
  | 0, i, h0, h1, hk => by
    have : i = quiet := by omega
    subst this
    exact .last (ages_round stale i x i (F.aV x i) _ _ hst (aV_fit h0) ⟨h0, by omega, hq⟩ _ (fun h => absurd h (by omega)) (fun _ => ⟨rfl, rfl, rfl, fun j hj => hj⟩)) (by intro h; cases h)
  | k + 1, i, h0, h1, hk => by
    obtain ⟨s1, s2, s3⟩ := aV_step (x := x) hst h0
    refine .more (o1 := ⟨.normal, frAges stale quiet x (i + 1), [(F.aV x (i + 1)).blk stale 0, reading (F.aOk stale (i + 1)) (F.aX stale x (i + 1))], []⟩)
      (ages_round stale quiet x i (F.aV x i) _ _ hst (aV_fit h0) ⟨h0, h1, hq⟩ _ (fun h => ⟨rfl, rfl, ?_, fun j hj => hj⟩) (fun h => absurd (show i < quiet by omega) h)) rfl
      (ages_rounds hst hq k (i + 1) (by omega) (by omega) (by omega)) (fun j hj => by cases hj)
    rw [← s1, ← s2, ← s3]
    rfl
def agesSum (fr : Fr) (hp : Hp) : Out := match fr.get 0, fr.get 1, fr.get 2 with
  | some (.int _ stale), some (.int _ quiet), some (.int _ x) =>
    ⟨.exit 0, frAges stale quiet x quiet, [(F.aV x quiet).blk stale 0, reading (F.aOk stale quiet) (F.aX stale x quiet)], []⟩
  | _, _, _ => ⟨.ret, fr, [], []⟩
theorem ages_told {stale quiet x : Int} (hst : 0 ≤ stale ∧ stale ≤ 65534) (h0 : 0 ≤ quiet) (hq : quiet ≤ 131072) {V : F.V} {o : Bool} {rx : Int} (hV : V = F.aV x 0) (ho : o = true) (hx : rx = x) :
    CodeSpec Try.prog 0 (.loop ages_loop) (frAges stale quiet x 0) [V.blk stale 0, reading o rx] ⟨.exit 0, frAges stale quiet x quiet, [(F.aV x quiet).blk stale 0, reading (F.aOk stale quiet) (F.aX stale x quiet)], []⟩ := by
  subst hV ho hx
  have := ages_rounds (x := rx) hst hq quiet.toNat 0 (by omega) h0 (by omega)
  have e1 : F.aOk stale 0 = true := by simp [F.aOk]; omega
  have e2 : F.aX stale rx 0 = rx := by simp [F.aX]; omega
  rw [e1, e2] at this
  exact this.code
noncomputable def ages_loopC : Code := .loop ages_loop
/-- The first tick: unit 0 speaks alone. -/
theorem first_step {stale x : Int} (hst : 0 ≤ stale ∧ stale ≤ 65534) :
    F.step stale 0 ⟨0, 0, 0, 65535, 65535, 65535, 0⟩ ⟨true, x, false, 77, false, 77⟩ = F.aV x 0 ∧ F.ok stale ⟨0, 0, 0, 65535, 65535, 65535, 0⟩ ⟨true, x, false, 77, false, 77⟩ = true ∧
    F.x stale ⟨0, 0, 0, 65535, 65535, 65535, 0⟩ ⟨true, x, false, 77, false, 77⟩ = x := by
  have e1 : F.na false 65535 = 65535 := by
    simp only [F.na, F.up, Bool.false_eq_true, if_false]
    split <;> omega
  have e2 : F.na true 65535 = 0 := rfl
  have n1 : ¬ (65535 : Int) ≤ stale := by omega
  have hv : F.valid stale ⟨0, 0, 0, 65535, 65535, 65535, 0⟩ ⟨true, x, false, 77, false, 77⟩ = [x] := by
    simp only [F.valid, e1, e2, n1, if_false, List.append_nil, if_pos hst.1, F.nv, if_true]
  refine ⟨?_, ?_, ?_⟩
  · unfold F.step
    rw [hv]
    simp [F.wide, e1, e2, F.nv, F.aV]
  · unfold F.ok; rw [hv]; rfl
  · unfold F.x; rw [hv]; rfl
theorem new_fit : (⟨0, 0, 0, 65535, 65535, 65535, 0⟩ : F.V).fit := by
  refine ⟨?_, ?_, ?_, ?_⟩ <;> simp [F.age]
end Go.Proofs.Ytfjlaplhglfcaaa.Ex
