/- Values with abstract names and the real ones; what one operation leaves behind. -/
import Derived.Test.YtfjlaplhglfcaaaExB2
namespace Go.Proofs.Ytfjlaplhglfcaaa.Ex
open Go
set_option linter.unusedVariables false
set_option linter.unusedSimpArgs false
def Le (ν ν' : Nu) : Prop := ∀ id N, ν id = some N → ν' id = some N
theorem Le.refl (ν : Nu) : Le ν ν := fun _ _ h => h
theorem VR0.le {ν ν' : Nu} (h : Le ν ν') {v v' : Value} (hv : VR0 ν v v') : VR0 ν' v v' := by
  unfold VR0 at hv ⊢
  split
  · obtain ⟨N, h1, h2, h3⟩ := hv
    exact ⟨N, h _ _ h1, h2, h3⟩
  · obtain ⟨a', c', h1, h2, h3, h4⟩ := hv
    refine ⟨a', c', h1, h2, h3, fun hc => ?_⟩
    obtain ⟨N, k1, k2⟩ := h4 hc
    exact ⟨N, h _ _ k1, k2⟩
  all_goals first | exact hv | (exfalso; revert hv; split <;> first | exact id | (intro hv; simp_all))
theorem VR1.le {ν ν' : Nu} (h : Le ν ν') {v v' : Value} (hv : VR1 ν v v') : VR1 ν' v v' := by
  cases v with
  | func fn f c =>
    obtain ⟨f', c', h1, h2, h3⟩ := hv
    exact ⟨f', c', h1, h2.mono fun _ _ => VR0.le h, h3.mono fun _ _ => VR0.le h⟩
  | _ => simp only [VR1] at hv ⊢; exact VR0.le h hv
theorem VRC.le {ν ν' : Nu} (h : Le ν ν') {v v' : Value} (hv : VRC ν v v') : VRC ν' v v' := by
  cases v with
  | agg cs =>
    obtain ⟨c', h1, h2⟩ := hv
    exact ⟨c', h1, h2.mono fun _ _ => VR1.le h⟩
  | _ => simp only [VRC] at hv ⊢; exact VR1.le h hv
theorem VR.le {ν ν' : Nu} (h : Le ν ν') {v v' : Value} (hv : VR ν v v') : VR ν' v v' := by
  cases v with
  | tuple cs =>
    obtain ⟨c', h1, h2⟩ := hv
    exact ⟨c', h1, h2.mono fun _ _ => VRC.le h⟩
  | _ => simp only [VR] at hv ⊢; exact VRC.le h hv
theorem flat1_VR {ν : Nu} {v : Value} (h : flat1 v = true) (v' : Value) : VR1 ν v v' ↔ v' = v := by
  unfold flat1 at h
  split at h
  all_goals first | (exact Iff.rfl) | (simp at h; done) | skip
  all_goals
    simp only [Bool.and_eq_true, beq_iff_eq, Array.size_eq_zero_iff] at h
    obtain ⟨rfl, rfl⟩ := h
    constructor
    · rintro ⟨f', c', rfl, h1, h2⟩
      cases f' with
      | mk f' => cases c' with
        | mk c' =>
          cases h1
          cases h2
          rfl
    · rintro rfl
      exact ⟨_, _, rfl, .nil, .nil⟩
theorem flat_L2 {ν : Nu} {cs : List Value} (h : cs.all flat1 = true) {cs' : List Value} : L2 (VR1 ν) cs cs' ↔ cs' = cs := by
  induction cs generalizing cs' with
  | nil => exact ⟨fun h => by cases h; rfl, fun h => by subst h; exact .nil⟩
  | cons x cs ih =>
    simp only [List.all_cons, Bool.and_eq_true] at h
    constructor
    · intro hl
      cases hl with
      | cons h1 h2 => rw [(flat1_VR h.1 _).1 h1, (ih h.2).1 h2]
    · rintro rfl
      exact .cons ((flat1_VR h.1 _).2 rfl) ((ih h.2).2 rfl)
theorem flatC_VR {ν : Nu} {v : Value} (h : flatC v = true) (v' : Value) : VRC ν v v' ↔ v' = v := by
  cases v with
  | agg cs =>
    constructor
    · rintro ⟨cs', rfl, hl⟩
      rw [flat_L2 h] at hl
      cases cs'; cases cs; simp_all
    · rintro rfl
      exact ⟨_, rfl, (flat_L2 h).2 rfl⟩
  | _ => simp only [flatC] at h; simp only [VRC]; exact flat1_VR h v'
theorem flatC_L2 {ν : Nu} {cs : List Value} (h : cs.all flatC = true) {cs' : List Value} : L2 (VRC ν) cs cs' ↔ cs' = cs := by
  induction cs generalizing cs' with
  | nil => exact ⟨fun h => by cases h; rfl, fun h => by subst h; exact .nil⟩
  | cons x cs ih =>
    simp only [List.all_cons, Bool.and_eq_true] at h
    constructor
    · intro hl
      cases hl with
      | cons h1 h2 => rw [(flatC_VR h.1 _).1 h1, (ih h.2).1 h2]
    · rintro rfl
      exact .cons ((flatC_VR h.1 _).2 rfl) ((ih h.2).2 rfl)
theorem flat_VR {ν : Nu} {v : Value} (h : flat v = true) (v' : Value) : VR ν v v' ↔ v' = v := by
  cases v with
  | tuple cs =>
    constructor
    · rintro ⟨cs', rfl, hl⟩
      rw [flatC_L2 h] at hl
      cases cs'; cases cs; simp_all
    · rintro rfl
      exact ⟨_, rfl, (flatC_L2 h).2 rfl⟩
  | _ => simp only [flat] at h; simp only [VR]; exact flatC_VR h v'
/-- A value that is no tuple and no struct stands as a cell does. -/
theorem VR1.not_agg {ν : Nu} {v : Value} {cs : Array Value} (h : VR1 ν v (.agg cs)) : False := by
  cases v with
  | func fn f c => obtain ⟨_, _, hh, _⟩ := h; cases hh
  | pointer a => cases a with
    | none => simp [VR1, VR0] at h
    | some a => obtain ⟨_, _, _, hh⟩ := h; cases hh
  | slice a l c => cases a with
    | some a => obtain ⟨_, _, hh, _⟩ := h; cases hh
    | none => cases l <;> cases c <;> simp [VR1, VR0] at h
  | map r => cases r <;> simp [VR1, VR0] at h
  | _ => simp [VR1, VR0] at h
theorem cells_one {u : Value} (h : ∀ cs, u ≠ .agg cs) : u.cells = #[u] := by
  cases u with
  | agg cs => exact absurd rfl (h cs)
  | _ => rfl
theorem VRC.cells {ν : Nu} {v v' : Value} (h : VRC ν v v') : L2 (VR1 ν) v.cells.toList v'.cells.toList := by
  by_cases hv : ∃ cs, v = .agg cs
  · obtain ⟨cs, rfl⟩ := hv
    obtain ⟨cs', rfl, hl⟩ := h
    exact hl
  · have hv' : ∀ cs, v ≠ .agg cs := fun cs e => hv ⟨cs, e⟩
    have h1 : VR1 ν v v' := by
      cases v with
      | agg cs => exact absurd rfl (hv' cs)
      | _ => simp only [VRC] at h; exact h
    rw [cells_one hv', cells_one (u := v') (fun cs e => (e ▸ h1 : VR1 ν v (.agg cs)).not_agg)]
    exact .cons h1 .nil
theorem CR.le {P : Program} {ν ν' : Nu} {e : TypeId} (h : Le ν ν') {v v' : Value} (hv : CR P ν e v v') : CR P ν' e v v' := ⟨hv.1.le h, hv.2⟩
theorem RepBlk.le {P : Program} {ν ν' : Nu} {w w' : World} {id : Nat} {b : Blk} (h : Le ν ν') (hb : RepBlk P ν w id b) (hw : ∀ N, ν id = some N → b.live = true → w'.heap[N.g]? = w.heap[N.g]?)
    (hs : w.heap.size ≤ w'.heap.size) : RepBlk P ν' w' id b := by
  cases b with
  | dead => trivial
  | own e cs =>
    obtain ⟨g, cur, lo, hi, h1, h2, h3, h4, h5⟩ := hb
    exact ⟨g, cur, lo, hi, h _ _ h1, (hw _ h1 rfl).trans h2, h3, h4, h5.mono fun _ _ => CR.le h⟩
  | ro e cs =>
    obtain ⟨N, h1, h3, h4, cs', h5, h6⟩ := hb
    refine ⟨N, h _ _ h1, h3, Nat.lt_of_lt_of_le h4 hs, cs', h5.mono fun _ _ => CR.le h, fun i v hv => ?_⟩
    have := h6 i v hv
    unfold World.cell? at this ⊢
    have e : w'.heap[(N.at i).block]? = w.heap[(N.at i).block]? := hw _ h1 rfl
    rw [e]
    exact this
/-- The cells of a block, read. -/
theorem RepBlk.read {P : Program} {ν : Nu} {w : World} {id : Nat} {hp : Hp} {cs : List Value} (hb : RepBlk P ν w id (hp.getD id .dead)) (hc : cellsAt hp id = some cs) :
    ∃ N cs', ν id = some N ∧ L2 (VR1 ν) cs cs' ∧ ∀ i v, cs'[i]? = some v → w.cell? (N.at i) = some v := by
  unfold cellsAt at hc
  split at hc
  · rename_i e cs0 he
    cases hc
    rw [he] at hb
    obtain ⟨g, cur, lo, hi, h1, h2, h3, h4, h5⟩ := hb
    refine ⟨_, _, h1, h5.mono fun _ _ h => h.1, fun i v hv => ?_⟩
    have hv' : cur[i]? = some v := by
      rw [List.getElem?_take] at hv
      split at hv
      · simpa using hv
      · cases hv
    simp [World.cell?, Nm.at, h2, hv']
  · rename_i e cs0 he
    cases hc
    rw [he] at hb
    obtain ⟨N, h1, h3, h4, cs', h5, h6⟩ := hb
    exact ⟨N, cs', h1, h5.mono fun _ _ h => h.1, h6⟩
  · cases hc
end Go.Proofs.Ytfjlaplhglfcaaa.Ex
