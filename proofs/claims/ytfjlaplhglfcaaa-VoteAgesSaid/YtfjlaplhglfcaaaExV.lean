/- Regions whose order is drawn: names cut below a length. -/
import Derived.Test.YtfjlaplhglfcaaaExU
namespace Go.Proofs.Ytfjlaplhglfcaaa.Ex
open Go
set_option linter.unusedVariables false
set_option linter.unusedSimpArgs false
section
variable {P : Program} {fr : Fr} {o : Oper} {ν : Nu}
theorem Seen.env {all : Array Oper} {a : Act} (h : Seen all ν fr a.tmps o) : Env ν fr a o := fun x hx v hv => by
  cases x with
  | tmp t =>
    have hin : t ∈ o.looksAt all := by
      unfold Oper.looksAt
      exact List.mem_append.2 (.inl (List.mem_filterMap.2 ⟨.tmp t, by simpa using hx, rfl⟩))
    obtain ⟨v', h1, h2⟩ := h t v hin hv
    have : a.eval (.tmp t) = v' := by simp [Act.eval, h1]
    rw [this]
    exact h2
  | const c =>
    simp only [val] at hv
    split at hv
    · rename_i hf
      cases hv
      exact (flat_VR hf _).2 rfl
    · cases hv
  | func f => cases hv; exact ⟨#[], #[], rfl, .nil, .nil⟩
  | global g => cases hv
/-- The names below n alone. -/
def below (ν : Nu) (n : Nat) : Nu := fun id => if id < n then ν id else none
theorem below_le {n : Nat} : Le (below ν n) ν := fun id N h => by
  unfold below at h
  split at h
  · exact h
  · cases h
theorem below_mono {n k : Nat} (hnk : n ≤ k) : Le (below ν n) (below ν k) := fun id N h => by
  unfold below at h ⊢
  split at h
  · rw [if_pos (by omega)]; exact h
  · cases h
theorem below_out {n id : Nat} (h : n ≤ id) : below ν n id = none := if_neg (by omega)
theorem below_in {n id : Nat} (h : id < n) : below ν n id = ν id := if_pos h
/-- Names that agree below n. -/
theorem below_congr {ν' : Nu} {n : Nat} (h : ∀ id, id < n → ν' id = ν id) : below ν' n = below ν n := by
  funext id
  unfold below
  split
  · exact h id (by assumption)
  · rfl
theorem RepBlk.up {w : World} {id : Nat} {b : Blk} {ν' : Nu} (h : Le ν ν') (hb : RepBlk P ν w id b) : RepBlk P ν' w id b := hb.le h (fun _ _ _ => rfl) (Nat.le_refl _)
end
end Go.Proofs.Ytfjlaplhglfcaaa.Ex
