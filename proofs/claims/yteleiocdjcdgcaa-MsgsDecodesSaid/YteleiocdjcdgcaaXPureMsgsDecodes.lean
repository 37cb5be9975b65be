/- The plain law behind MsgsDecodes. -/
import Derived.Test.YteleiocdjcdgcaaXHDec
import Derived.Test.YteleiocdjcdgcaaXPRefDec
import Derived.Test.YteleiocdjcdgcaaXPSame
namespace Go.Proofs.Yteleiocdjcdgcaa.X
open Go.RowKit Go.Proofs.YteleiocdjcdgcaaW.PrintWords Go.Proofs.YteleiocdjcdgcaaW.PrintLast
set_option linter.unusedVariables false
theorem decL_len : ∀ (ws bs vs : List Int), decL ws bs = some vs → vs.length = ws.length
  | [], [], vs, h => by cases h; rfl
  | [], _ :: _, vs, h => by cases h
  | w :: ws, bs, vs, h => by
    simp only [decL] at h
    split at h
    · cases h
    · obtain ⟨t, ht, rfl⟩ := Option.map_eq_some_iff.1 h
      have := decL_len ws _ t ht
      simp [this]
theorem decS_len (id : Int) (s : ByteArray) : (decS id s).2.1.length ≤ 1000000 := by
  unfold decS
  split
  · rcases hd : decL (widthsTab id) (B s) with _ | vs
    · exact Nat.zero_le _
    · have h1 := decL_len _ _ _ hd
      have h2 := (widths_W5 id).2
      show ([] ++ vs).length ≤ 1000000
      rw [List.nil_append]
      omega
  · exact Nat.zero_le _
theorem decodes_ev (seq id : Int) (s : ByteArray) : Ev (fun k => windhoverlaw05_MsgsDecodes.f k seq id s) true := by
  unfold windhoverlaw05_MsgsDecodes.f
  have hl := decS_len id s
  have hd := dec_ev seq id s
  have hr := refDec_ev seq id s
  obtain ⟨⟨m, l, e⟩, hx⟩ : ∃ x, decS id s = x := ⟨_, rfl⟩
  rw [hx] at hl hd hr
  have hs := same_ev m m l l (by have : l.length ≤ 1000000 := hl; omega)
  refine Ev.bind hd (Ev.bind hr (Ev.bind hs (Ev.bind awake_ev ?_)))
  refine Ev.congr (f := fun _ => some true) (fun k => ?_) (Ev.now _)
  have : l.length ≤ 1000000 := hl
  rw [if_pos ⟨⟨rfl, by simp⟩, rfl, this⟩]
theorem MsgsDecodes (a0_0 : Int) (a0_1 : Int) (a0_2 : ByteArray) (w0_0 : (Lit.int .i64 a0_0).wf = true) (w0_1 : (Lit.int .i64 a0_1).wf = true) (w0_2 : a0_2.size ≤ 140737488351232) : ∃ k, windhoverlaw05_MsgsDecodes.f k a0_0 a0_1 a0_2 = some true := by
  exact Ev.rounds (decodes_ev _ _ _)
end Go.Proofs.Yteleiocdjcdgcaa.X
