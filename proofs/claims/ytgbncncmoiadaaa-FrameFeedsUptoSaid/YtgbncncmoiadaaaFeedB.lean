/- What is read of bytes, and Feed's loop. -/
import Derived.Test.YtgbncncmoiadaaaFeedA
namespace Go.Proofs.Ytgbncncmoiadaaa.Ex
open Go
set_option linter.unusedVariables false
/-- A frame that was read. -/
structure F.Fm where
  seq : UInt8
  id : UInt8
  p : List UInt8
def F.Fm.cells (f : F.Fm) : List Value := [.int .i64 ((f.seq.toNat : Nat) : Int), .int .i64 ((f.id.toNat : Nat) : Int), .string (F.str f.p)]
inductive F.Look where
  | stop
  | wrong
  | good (f : F.Fm) (n : Nat)
def F.sumOf (m : List UInt8) : List UInt8 := bl (F.check (F.str m))
/-- What stands at the beginning. -/
def F.look (l : List UInt8) : F.Look :=
  if l.length < 2 then .stop
  else if 64 < (l.getD 1 0).toNat then .wrong
  else if l.length < (l.getD 1 0).toNat + 6 then .stop
  else if F.sumOf ((l.drop 1).take ((l.getD 1 0).toNat + 3)) = (l.drop ((l.getD 1 0).toNat + 4)).take 2 then .good ⟨l.getD 2 0, l.getD 3 0, (l.drop 4).take (l.getD 1 0).toNat⟩ ((l.getD 1 0).toNat + 6)
  else .wrong
/-- What is read: the frames, how many are wrong, what is held. -/
structure F.Got where
  fs : List F.Fm
  bad : Nat
  held : List UInt8
def F.go : Nat → List UInt8 → F.Got
  | 0, l => ⟨[], 0, F.pass l⟩
  | k + 1, l => match F.look (F.pass l) with
    | .stop => ⟨[], 0, F.pass l⟩
    | .wrong => ⟨(F.go k ((F.pass l).drop 1)).fs, (F.go k ((F.pass l).drop 1)).bad + 1, (F.go k ((F.pass l).drop 1)).held⟩
    | .good f n => ⟨f :: (F.go k ((F.pass l).drop n)).fs, (F.go k ((F.pass l).drop n)).bad, (F.go k ((F.pass l).drop n)).held⟩
def F.read (l : List UInt8) : F.Got := F.go (l.length + 1) l
def F.cells (fs : List F.Fm) : List Value := fs.flatMap F.Fm.cells
/-- How many are counted as wrong. -/
def F.least (n : Int) : Int := if 65535 < n then 65535 else n
theorem cells_cons (f : F.Fm) (fs : List F.Fm) : F.cells (f :: fs) = f.cells ++ F.cells fs := rfl
theorem cells_length : ∀ fs : List F.Fm, (F.cells fs).length = fs.length * 3
  | [] => rfl
  | f :: fs => by
    rw [cells_cons, List.length_append, cells_length fs, List.length_cons, Nat.succ_mul]
    simp [F.Fm.cells]
    omega
theorem seek_bl (s : ByteArray) : bl (F.seek s) = F.pass (bl s) := rfl
theorem look_stop {l : List UInt8} (h : l.length < 2) : F.look l = .stop := if_pos h
theorem look_long {l : List UInt8} (h1 : ¬ l.length < 2) (h2 : 64 < (l.getD 1 0).toNat) : F.look l = .wrong := by
  unfold F.look
  rw [if_neg h1, if_pos h2]
theorem look_short {l : List UInt8} (h1 : ¬ l.length < 2) (h2 : ¬ 64 < (l.getD 1 0).toNat) (h3 : l.length < (l.getD 1 0).toNat + 6) : F.look l = .stop := by
  unfold F.look
  rw [if_neg h1, if_neg h2, if_pos h3]
theorem look_end {l : List UInt8} (h1 : ¬ l.length < 2) (h2 : ¬ 64 < (l.getD 1 0).toNat) (h3 : ¬ l.length < (l.getD 1 0).toNat + 6) :
    F.look l = if F.sumOf ((l.drop 1).take ((l.getD 1 0).toNat + 3)) = (l.drop ((l.getD 1 0).toNat + 4)).take 2 then .good ⟨l.getD 2 0, l.getD 3 0, (l.drop 4).take (l.getD 1 0).toNat⟩ ((l.getD 1 0).toNat + 6) else .wrong := by
  unfold F.look
  rw [if_neg h1, if_neg h2, if_neg h3]
/-- The round's own test is the look's. -/
theorem same_test {a : ByteArray} {n : Nat} (hn : n + 6 ≤ a.size) :
    (ByteArray.toList (F.check ((a.extract 0 (Int.toNat (4 + (n : Int) + 2))).extract 1 (Int.toNat (4 + (n : Int))))) == ByteArray.toList ((a.extract 0 (Int.toNat (4 + (n : Int) + 2))).extract (Int.toNat (4 + (n : Int))) (ByteArray.size (a.extract 0 (Int.toNat (4 + (n : Int) + 2)))))) =
    decide (F.sumOf (((bl a).drop 1).take (n + 3)) = ((bl a).drop (n + 4)).take 2) := by
  rw [bl_beq]
  have e1 : Int.toNat (4 + (n : Int) + 2) = n + 6 := by omega
  have e2 : Int.toNat (4 + (n : Int)) = n + 4 := by omega
  rw [e1, e2]
  have hz : (a.extract 0 (n + 6)).size = n + 6 := by rw [ByteArray.size_extract]; omega
  have h1 : bl ((a.extract 0 (n + 6)).extract 1 (n + 4)) = ((bl a).drop 1).take (n + 3) := by
    rw [bl_cut, bl_cut, List.drop_zero, List.take_take, List.drop_take, show min (n + 4) (n + 6) - 1 = n + 3 from by omega]
  have h2 : bl ((a.extract 0 (n + 6)).extract (n + 4) (a.extract 0 (n + 6)).size) = ((bl a).drop (n + 4)).take 2 := by
    rw [hz, bl_cut, bl_cut, List.drop_zero, List.take_take, List.drop_take, show min (n + 6) (n + 6) - (n + 4) = 2 from by omega]
  have h3 : (a.extract 0 (n + 6)).extract 1 (n + 4) = F.str (((bl a).drop 1).take (n + 3)) := str_inj h1
  rw [h2, h3]
  generalize ((bl a).drop 1).take (n + 3) = u
  generalize ((bl a).drop (n + 4)).take 2 = v
  unfold F.sumOf
  generalize bl (F.check (F.str u)) = w
  by_cases h : w = v
  · rw [decide_eq_true h, h]; exact beq_self_eq_true _
  · rw [decide_eq_false h]; exact beq_false_of_ne h
end Go.Proofs.Ytgbncncmoiadaaa.Ex
