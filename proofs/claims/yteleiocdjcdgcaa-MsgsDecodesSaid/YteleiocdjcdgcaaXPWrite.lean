/- What a field's bytes are, and that msgs.write lays just these. -/
import Derived.Test.YteleiocdjcdgcaaXx2
namespace Go.Proofs.Yteleiocdjcdgcaa.X
open Go.RowKit Go.Proofs.YteleiocdjcdgcaaW.PrintWords Go.Proofs.YteleiocdjcdgcaaW.PrintLast Go.Proofs.YteleiocdjcdgcaaW.PrintMore
set_option linter.unusedVariables false
set_option linter.unusedSimpArgs false
def le : Nat → Int → List Int
  | 0, _ => []
  | m + 1, n => (n % 256) :: le m (n / 256)
def lo (w : Int) : Int := if w = -16 then -32768 else if w = -32 then -2147483648 else 0
def hi (w : Int) : Int := if w = 8 then 255 else if w = 16 then 65535 else if w = 32 then 4294967295 else if w = -16 then 32767 else 2147483647
def nb (w : Int) : Nat := if w = 8 then 1 else if w = 16 ∨ w = -16 then 2 else 4
def W5 (w : Int) : Prop := w = 8 ∨ w = 16 ∨ w = 32 ∨ w = -16 ∨ w = -32
def fitB (n w : Int) : Bool := decide (lo w ≤ n) && decide (n ≤ hi w)
theorem write_8 (l : List Int) (n : Int) (hl : l.length ≤ 1000) : msgs_write.f 9 l n 8 = some (if fitB n 8 = true then (l ++ le (nb 8) n, true) else ([], false)) := by
  have h1 : l.length < 140737488355328 := by omega
  have h2 : l.length + 1 < 140737488355328 := by omega
  have h3 : l.length + 1 + 1 < 140737488355328 := by omega
  have h4 : l.length + 1 + 1 + 1 < 140737488355328 := by omega
  by_cases c : n < 0
  · have e : fitB n 8 = false := by simp [fitB, lo, hi]; omega
    rw [e]
    simp [msgs_write.f, msgs_write.j0, msgs_write.j1, c, wrap64, shl, IntKind.wrap, IntKind.bits, IntKind.signed]
  · by_cases c2 : n > 255
    · have e : fitB n 8 = false := by simp [fitB, lo, hi]; omega
      rw [e]
      simp [msgs_write.f, msgs_write.j0, msgs_write.j1, c, c2, wrap64, shl, IntKind.wrap, IntKind.bits, IntKind.signed]
    · have e : fitB n 8 = true := by simp [fitB, lo, hi]; omega
      rw [e]
      simp [msgs_write.f, msgs_write.j0, msgs_write.j1, msgs_write.l0, c, c2, wrap64, shl, shr, IntKind.wrap, IntKind.bits, IntKind.signed, h1, h2, h3, h4, nb, le]
      try omega
theorem write_16 (l : List Int) (n : Int) (hl : l.length ≤ 1000) : msgs_write.f 9 l n 16 = some (if fitB n 16 = true then (l ++ le (nb 16) n, true) else ([], false)) := by
  have h1 : l.length < 140737488355328 := by omega
  have h2 : l.length + 1 < 140737488355328 := by omega
  have h3 : l.length + 1 + 1 < 140737488355328 := by omega
  have h4 : l.length + 1 + 1 + 1 < 140737488355328 := by omega
  by_cases c : n < 0
  · have e : fitB n 16 = false := by simp [fitB, lo, hi]; omega
    rw [e]
    simp [msgs_write.f, msgs_write.j0, msgs_write.j1, c, wrap64, shl, IntKind.wrap, IntKind.bits, IntKind.signed]
  · by_cases c2 : n > 65535
    · have e : fitB n 16 = false := by simp [fitB, lo, hi]; omega
      rw [e]
      simp [msgs_write.f, msgs_write.j0, msgs_write.j1, c, c2, wrap64, shl, IntKind.wrap, IntKind.bits, IntKind.signed]
    · have e : fitB n 16 = true := by simp [fitB, lo, hi]; omega
      rw [e]
      simp [msgs_write.f, msgs_write.j0, msgs_write.j1, msgs_write.l0, c, c2, wrap64, shl, shr, IntKind.wrap, IntKind.bits, IntKind.signed, h1, h2, h3, h4, nb, le]
      try omega
theorem write_32 (l : List Int) (n : Int) (hl : l.length ≤ 1000) : msgs_write.f 9 l n 32 = some (if fitB n 32 = true then (l ++ le (nb 32) n, true) else ([], false)) := by
  have h1 : l.length < 140737488355328 := by omega
  have h2 : l.length + 1 < 140737488355328 := by omega
  have h3 : l.length + 1 + 1 < 140737488355328 := by omega
  have h4 : l.length + 1 + 1 + 1 < 140737488355328 := by omega
  by_cases c : n < 0
  · have e : fitB n 32 = false := by simp [fitB, lo, hi]; omega
    rw [e]
    simp [msgs_write.f, msgs_write.j0, msgs_write.j1, c, wrap64, shl, IntKind.wrap, IntKind.bits, IntKind.signed]
  · by_cases c2 : n > 4294967295
    · have e : fitB n 32 = false := by simp [fitB, lo, hi]; omega
      rw [e]
      simp [msgs_write.f, msgs_write.j0, msgs_write.j1, c, c2, wrap64, shl, IntKind.wrap, IntKind.bits, IntKind.signed]
    · have e : fitB n 32 = true := by simp [fitB, lo, hi]; omega
      rw [e]
      simp [msgs_write.f, msgs_write.j0, msgs_write.j1, msgs_write.l0, c, c2, wrap64, shl, shr, IntKind.wrap, IntKind.bits, IntKind.signed, h1, h2, h3, h4, nb, le]
      try omega
theorem write_m16 (l : List Int) (n : Int) (hl : l.length ≤ 1000) : msgs_write.f 9 l n (-16) = some (if fitB n (-16) = true then (l ++ le (nb (-16)) n, true) else ([], false)) := by
  have h1 : l.length < 140737488355328 := by omega
  have h2 : l.length + 1 < 140737488355328 := by omega
  have h3 : l.length + 1 + 1 < 140737488355328 := by omega
  have h4 : l.length + 1 + 1 + 1 < 140737488355328 := by omega
  by_cases c : n < (-32768)
  · have e : fitB n (-16) = false := by simp [fitB, lo, hi]; omega
    rw [e]
    simp [msgs_write.f, msgs_write.j0, msgs_write.j1, c, wrap64, shl, IntKind.wrap, IntKind.bits, IntKind.signed]
  · by_cases c2 : n > 32767
    · have e : fitB n (-16) = false := by simp [fitB, lo, hi]; omega
      rw [e]
      simp [msgs_write.f, msgs_write.j0, msgs_write.j1, c, c2, wrap64, shl, IntKind.wrap, IntKind.bits, IntKind.signed]
    · have e : fitB n (-16) = true := by simp [fitB, lo, hi]; omega
      rw [e]
      simp [msgs_write.f, msgs_write.j0, msgs_write.j1, msgs_write.l0, c, c2, wrap64, shl, shr, IntKind.wrap, IntKind.bits, IntKind.signed, h1, h2, h3, h4, nb, le]
      try omega
theorem write_m32 (l : List Int) (n : Int) (hl : l.length ≤ 1000) : msgs_write.f 9 l n (-32) = some (if fitB n (-32) = true then (l ++ le (nb (-32)) n, true) else ([], false)) := by
  have h1 : l.length < 140737488355328 := by omega
  have h2 : l.length + 1 < 140737488355328 := by omega
  have h3 : l.length + 1 + 1 < 140737488355328 := by omega
  have h4 : l.length + 1 + 1 + 1 < 140737488355328 := by omega
  by_cases c : n < (-2147483648)
  · have e : fitB n (-32) = false := by simp [fitB, lo, hi]; omega
    rw [e]
    simp [msgs_write.f, msgs_write.j0, msgs_write.j1, c, wrap64, shl, IntKind.wrap, IntKind.bits, IntKind.signed]
  · by_cases c2 : n > 2147483647
    · have e : fitB n (-32) = false := by simp [fitB, lo, hi]; omega
      rw [e]
      simp [msgs_write.f, msgs_write.j0, msgs_write.j1, c, c2, wrap64, shl, IntKind.wrap, IntKind.bits, IntKind.signed]
    · have e : fitB n (-32) = true := by simp [fitB, lo, hi]; omega
      rw [e]
      simp [msgs_write.f, msgs_write.j0, msgs_write.j1, msgs_write.l0, c, c2, wrap64, shl, shr, IntKind.wrap, IntKind.bits, IntKind.signed, h1, h2, h3, h4, nb, le]
      try omega
theorem write_ev (l : List Int) (n w : Int) (hl : l.length ≤ 1000) (hw : W5 w) : Ev (fun k => msgs_write.f k l n w) (if fitB n w = true then (l ++ le (nb w) n, true) else ([], false)) := by
  refine Ev.of (msgs_write.mono l n w) (k := 9) ?_
  rcases hw with rfl | rfl | rfl | rfl | rfl
  · exact write_8 l n hl
  · exact write_16 l n hl
  · exact write_32 l n hl
  · exact write_m16 l n hl
  · exact write_m32 l n hl
end Go.Proofs.Yteleiocdjcdgcaa.X
