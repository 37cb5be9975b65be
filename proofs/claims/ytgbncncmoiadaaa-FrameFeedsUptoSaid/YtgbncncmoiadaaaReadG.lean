/- Read, told. -/
import Derived.Test.YtgbncncmoiadaaaReadF
namespace Go.Proofs.Ytgbncncmoiadaaa.Ex
open Go
set_option linter.unusedVariables false
theorem read_all {d : ByteArray} (hd : d.size ≤ 4398046510000) : CodeSpec Try.prog 0 read_loopC (frRead d (.slice none 0 0) 0 0 (.slice none 0 0) 0 0) [] (rdEnd d [] 0 (F.read (bl d))) :=
  (read_rounds hd (d.size + 1) 0 0 [] (by omega) (Nat.zero_le _) (Nat.le_refl _) (Nat.zero_le _)).code
theorem rdEnd_all (d : ByteArray) : rdEnd d [] 0 (F.read (bl d)) =
    if (F.held d).size = 0 then ⟨.exit 0, frRead d (.slice none 0 0) 0 0 (oV (F.read (bl d)).fs) (F.nbad d) d.size, oB (F.read (bl d)).fs, []⟩
    else ⟨.ret, frRead d (oV (F.read (bl d)).fs) (F.nbad d) ((F.held d).size : Nat) (oV (F.read (bl d)).fs) (F.nbad d) ((d.size : Int) - ((F.held d).size : Nat)), oB (F.read (bl d)).fs, []⟩ := by
  have e : (F.held d).size = (F.read (bl d)).held.length := str_size _
  unfold rdEnd F.nbad
  rw [e, List.nil_append, Nat.zero_add]
theorem read_done0 {d : ByteArray} (hd : d.size ≤ 4398046510000) (hn : (F.read (bl d)).fs = []) :
    CallSpec Try.prog 16 [.string d] [] ⟨.tuple #[.slice none 0 0, .int .i64 (F.nbad d), .int .i64 ((F.held d).size : Nat)], [], []⟩ := by
  have h := read_all hd
  rw [rdEnd_all, hn] at h
  by_cases hz : (F.held d).size = 0
  · rw [if_pos hz] at h
    refine read_okA d h _ ?_
    rw [hz]
    exact ⟨rfl, rfl, fun j hj => hj⟩
  · rw [if_neg hz] at h
    exact read_okB d h _ ⟨rfl, rfl, fun j hj => hj⟩
theorem read_done {d : ByteArray} (hd : d.size ≤ 4398046510000) (hn : (F.read (bl d)).fs ≠ []) :
    CallSpec Try.prog 16 [.string d] [] ⟨.tuple #[.slice (some ⟨0, 0, none⟩) (F.count d) (F.count d), .int .i64 (F.nbad d), .int .i64 ((F.held d).size : Nat)], [.own 23 (F.out d)], []⟩ := by
  have h := read_all hd
  rw [rdEnd_all, oV_some hn, oB_some hn] at h
  by_cases hz : (F.held d).size = 0
  · rw [if_pos hz] at h
    refine read_okC d h _ ?_
    rw [hz]
    exact ⟨rfl, rfl, fun j hj => hj⟩
  · rw [if_neg hz] at h
    exact read_okD d h _ ⟨rfl, rfl, fun j hj => hj⟩
def readSum0 (args : List Value) (hp : Hp) : Res := match args with
  | [.string d] => ⟨.tuple #[.slice none 0 0, .int .i64 (F.nbad d), .int .i64 ((F.held d).size : Nat)], [], []⟩
  | _ => ⟨undef, [], []⟩
def readSum (args : List Value) (hp : Hp) : Res := match args with
  | [.string d] => ⟨.tuple #[.slice (some ⟨0, 0, none⟩) (F.count d) (F.count d), .int .i64 (F.nbad d), .int .i64 ((F.held d).size : Nat)], [.own 23 (F.out d)], []⟩
  | _ => ⟨undef, [], []⟩
end Go.Proofs.Ytgbncncmoiadaaa.Ex
