/- Lists of ticks and histories, laid open. -/
import Derived.Test.YtfjlaplhglfcaaaNums
import Derived.Test.YtfjlaplhglfcaaaNil12
namespace Go.Proofs.Ytfjlaplhglfcaaa.Ex
open Go Go.ChangeShapes Go.WideShapes Go.ChangeAt Go.RowKit
set_option linter.unusedVariables false
def F.U.good (u : F.U) : Prop := F.i64 u.x0 ∧ F.i64 u.x1 ∧ F.i64 u.x2
theorem opU : OpF Try.prog 38 F.U.cells 6 F.U.good :=
  (OpF.array 3 Try.underlying38 (by kernel_rfl) (OpF.struct Try.underlying36 (by kernel_rfl) (OpFs.cons rfl (OpF.bool (by kernel_rfl) Try.underlying4) (OpFs.one rfl (OpF.int (k := .i64) (by kernel_rfl) Try.underlying3))))).iso _ _ fun l hl hn => by
    obtain ⟨o0, x0, o1, x1, o2, x2, rfl⟩ := three hl.1
    refine ⟨⟨o0, x0, o1, x1, o2, x2⟩, rfl, ?_, ?_, ?_⟩
    · exact bounds_i64 (hl.2 (o0, x0) (by simp)).2
    · exact bounds_i64 (hl.2 (o1, x1) (by simp)).2
    · exact bounds_i64 (hl.2 (o2, x2) (by simp)).2
/-- A list of ticks. -/
theorem open_ticks {H : Type} {enc : TypeId × Value → H} {W : World} {held : Bool} {fuel : Nat} {v : Value} {x : DataW H × List MemPlace} (ht : DataW.trod enc Try.prog W 0 (fun _ => true) held fuel 22 [v] = some x) (hw : ∀ n ∈ x.1.weights Try.prog 22, n ≤ 140737488351232) :
    (∃ ν, VR ν (.slice none 0 0) v ∧ Rep Try.prog ν [.dead] W) ∨ (∃ ν, VR ν (.slice (some ⟨0, 0, none⟩) 0 0) v ∧ Rep Try.prog ν [.dead] W) ∨
    ∃ (T : List F.U) (ν : Nu), T.length ≤ 2932031007403 ∧ (∀ u ∈ T, F.U.good u) ∧ VR ν (.slice (some ⟨0, 0, none⟩) T.length T.length) v ∧ Rep Try.prog ν [.ro 38 (T.flatMap F.U.cells)] W := by
  rcases open_row 48 Try.underlying22 (by kernel_rfl) (by decide) (by kernel_rfl) (.inr trivial) opU (by intro u; rfl) ht hw with rfl | h | ⟨T, ν, _, h1, h2, h3, h4⟩
  · exact .inl ⟨fun _ => none, rfl, fun _ _ => rfl, fun id => by cases id <;> trivial, fun i j N K _ hi => by cases i <;> cases hi⟩
  · exact .inr (.inl h)
  · exact .inr (.inr ⟨T, ν, by omega, fun u hu => (h2 u hu).1, h3, h4⟩)
/-- A history: a number and a list of ticks. -/
theorem open_hist {H : Type} {enc : TypeId × Value → H} {W : World} {held : Bool} {fuel : Nat} {cs : Array Value} {x : DataW H × List MemPlace} (ht : DataW.trod enc Try.prog W 0 (fun _ => true) held fuel 41 (Value.agg cs).cells.toList = some x) (hw : ∀ n ∈ x.1.weights Try.prog 41, n ≤ 140737488351232) :
    ∃ (stale : Int) (v : Value), cs = #[.int .i64 stale, v] ∧ ((∃ ν, VR ν (.slice none 0 0) v ∧ Rep Try.prog ν [.dead] W) ∨ (∃ ν, VR ν (.slice (some ⟨0, 0, none⟩) 0 0) v ∧ Rep Try.prog ν [.dead] W) ∨
      ∃ (T : List F.U) (ν : Nu), T.length ≤ 2932031007403 ∧ (∀ u ∈ T, F.U.good u) ∧ VR ν (.slice (some ⟨0, 0, none⟩) T.length T.length) v ∧ Rep Try.prog ν [.ro 38 (T.flatMap F.U.cells)] W) := by
  obtain ⟨xs, m, _, rfl, hl, hlen, hf⟩ := DataW.trod_struct Try.underlying41 ht
  have c41 : Try.prog.cellsOf 41 = 2 := by kernel_rfl
  have c3 : Try.prog.cellsOf 3 = 1 := by kernel_rfl
  have c22 : Try.prog.cellsOf 22 = 1 := by kernel_rfl
  rw [c41] at hl
  have hcs : (Value.agg cs).cells = cs := rfl
  rw [hcs] at hl hf
  obtain ⟨l⟩ := cs
  match l, hl with
  | [c0, c1], _ =>
    match xs, hlen with
    | [y0, y1], _ =>
      have f0 := hf 0 _ rfl
      have f1 := hf 1 _ rfl
      simp only [c3, c22] at f0 f1
      obtain ⟨n, e, _, _⟩ := DataW.trod_int Try.underlying3 f0
      have e : [c0] = [.int .i64 n] := e
      cases e
      exact ⟨n, c1, rfl, open_ticks f1 fun k hk => hw k (by
        simp only [DataW.weights, Try.underlying41, List.map_cons, List.map_nil, DataW.weightsEach, List.mem_append]
        exact .inr (.inl hk))⟩
end Go.Proofs.Ytfjlaplhglfcaaa.Ex
