/- A row of the call's own with marked room behind it (KL.R): what keeps it, as of a plain row (Kd.R). -/
import Derived.Test.YtannklfnfacpeaaXHKit
namespace Go.Proofs.Ytannklfnfacpeaa.KL
open Go.RowKit Go.Proofs.YtannklfnfacpeaaW.PrintWords Go.Proofs.YtannklfnfacpeaaW.PrintLast Go.Proofs.YtannklfnfacpeaaW.PrintMore
set_option linter.unusedVariables false
set_option linter.unusedSimpArgs false
section
variable {α : Type} {m : List α} {d : Kd α} {e : Nat} {w w1 : World} {base base' : Nat} {ok ok' : Nat → Prop} {v : Value} {xs : List α}
/-- v is a slice of the elements xs, in a row of the call's own, in which the marks m stand behind them. -/
def R (m : List α) (d : Kd α) (e : Nat) (w : World) (base : Nat) (ok : Nat → Prop) (v : Value) (xs : List α) : Prop :=
  ∃ A c, v = .slice A xs.length c ∧ xs.length + m.length ≤ c ∧ Kd.R d e w base ok (.slice A (xs.length + m.length) c) (xs ++ m)
theorem R.row (h : R m d e w base ok v xs) : Kd.R d e w base ok v xs := by
  obtain ⟨A, c, rfl, hc, hr⟩ := h
  have := Kd.R_take (m := xs.length) hr (by simp)
  rwa [List.take_append_of_le_length (Nat.le_refl _), List.take_of_length_le (Nat.le_refl _)] at this
theorem R_lower (h : R m d e w base ok v xs) (hb : base' ≤ base) : R m d e w base' ok v xs := by
  obtain ⟨A, c, rfl, hc, hr⟩ := h
  exact ⟨A, c, rfl, hc, Kd.R_lower hr hb⟩
theorem R_mono (h : R m d e w base ok v xs) (hok : ∀ k, ok k → ok' k) : R m d e w base ok' v xs := by
  obtain ⟨A, c, rfl, hc, hr⟩ := h
  exact ⟨A, c, rfl, hc, Kd.R_mono hr hok⟩
theorem R_below (h : R m d e w base ok v xs) (hb : Below w.heap.size w w1) : R m d e w1 base ok v xs := by
  obtain ⟨A, c, rfl, hc, hr⟩ := h
  exact ⟨A, c, rfl, hc, Kd.R_below hr hb⟩
theorem R_alloc (h : R m d e w base ok v xs) (o : Obj) : R m d e (w.alloc o) base ok v xs := R_below h (bAl (Below.refl _ _) o)
theorem R_drew (h : R m d e w base ok v xs) : R m d e w.drew base ok v xs := R_below h (below_drew (Below.refl _ _))
theorem R_drewN (h : R m d e w base ok v xs) (n : Nat) : R m d e (w.drewN n) base ok v xs := R_below h (pBn (Below.refl _ _) n)
theorem R_step (h : R m d e w base ok v xs) (hm : ∀ k, ok k → k < w.heap.size → w1.heap[k]? = w.heap[k]?) : R m d e w1 base ok v xs := by
  obtain ⟨A, c, rfl, hc, hr⟩ := h
  exact ⟨A, c, rfl, hc, Kd.R_step hr hm⟩
theorem R_grown (h : R m d e w base ok v xs) {row : Option Nat} (hg : w.grownBy w1 row) (hok : ∀ k, ok k → some k ≠ row) : R m d e w1 base ok v xs := by
  obtain ⟨A, c, rfl, hc, hr⟩ := h
  exact ⟨A, c, rfl, hc, Kd.R_grown hr hg hok⟩
theorem R_far (h : R m d e w base ok v xs) {p : Addr} (hok : ∀ k, ok k → k ≠ p.block) (u : Value) : R m d e (w.setCell p u) base ok v xs := by
  obtain ⟨A, c, rfl, hc, hr⟩ := h
  exact ⟨A, c, rfl, hc, Kd.R_far hr hok u⟩
theorem R_newB {g : Nat} {o : Obj} (h : R m d e w1 w.heap.size ok v xs) (hb : w.heap[g]? = some o) : R m d e w1 w.heap.size (fun k => ok k ∧ k ≠ g) v xs := by
  obtain ⟨A, c, rfl, hc, hr⟩ := h
  exact ⟨A, c, rfl, hc, Kd.R_newB hr hb⟩
theorem R_types (h : R m d e w base ok v xs) {g t : Nat} {cells : Array Value} (hb : w.heap[g]? = some (.cells cells t (0, 0))) (ht : ∀ q, q ∈ e :: d.E → q ≠ t) : R m d e w base (fun k => ok k ∧ k ≠ g) v xs := by
  obtain ⟨A, c, rfl, hc, hr⟩ := h
  exact ⟨A, c, rfl, hc, Kd.R_types hr hb ht⟩
theorem R_set (h : R m d e w base ok v xs) {g t : Nat} {cells : Array Value} (hb : w.heap[g]? = some (.cells cells t (0, 0))) (ht : ∀ q, q ∈ e :: d.E → q ≠ t) (j : Nat) (u : Value) : R m d e (w.setCell ⟨g, j, none⟩ u) base ok v xs := by
  obtain ⟨A, c, rfl, hc, hr⟩ := h
  exact ⟨A, c, rfl, hc, Kd.R_set hr hb ht j u⟩
theorem R_ne (h : R m d e w base ok v xs) {g t : Nat} {cells : Array Value} (hb : w.heap[g]? = some (.cells cells t (0, 0))) (ht : e ≠ t) : some g ≠ v.ownBlock := Kd.R_ne h.row hb ht
theorem R_slice (h : R m d e w base ok v xs) : ∃ A c, v = .slice A xs.length c := Kd.R_slice h.row
theorem R_reads' {A : Option Addr} {n c : Nat} (h : R m d e w base ok (.slice A n c) xs) : n = xs.length ∧ n ≤ c ∧ d.C w A xs.length xs := Kd.R_reads' h.row
theorem R_apart_nil {u : Value} (h : R m d e w base ok u xs) : R m d e w base (fun k => ok k ∧ some k ≠ (Value.slice none 0 0).ownBlock) u xs := R_mono h (fun k hk => ⟨hk, by simp [Value.ownBlock]⟩)
theorem R_drop {ok2 : Nat → Prop} {u : Value} (h : R m d e w base (fun k => ok k ∧ ok2 k) u xs) : R m d e w base ok u xs := R_mono h (fun _ hk => hk.1)
end
/-- xs[:j], j up to the capacity. -/
theorem cut_up {P : Program} (t e : TypeId) {i : TypeInfo} (ht : P.underlying t = some (.slice e)) (hi : P.info? e = some i) (A : Option Addr) (n c : Nat) (j : Int) (h0 : 0 ≤ j) (hj : j ≤ c) :
    ∀ W : World, (Instr.slice t (.slice A n c) none (some (.int .i64 j)) none).run P W = .ok (.slice A j.toNat c) W := by
  intro W
  have hel : P.elem t = e := by simp [Program.elem, ht]
  have hu : P.underlying t = some (.slice (P.elem t)) := by rw [hel]; exact ht
  have ha : (A.map fun x => x.add 0) = A := by cases A <;> simp [Addr.add]
  rw [run_slice_h W t A n c hu .i64 j h0 (by omega), hel]
  simp [sizeOf, typeInfo, hi, sliced, Result.andThen, ha]
end Go.Proofs.Ytannklfnfacpeaa.KL
