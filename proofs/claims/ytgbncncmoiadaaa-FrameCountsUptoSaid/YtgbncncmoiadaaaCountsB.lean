/- FrameCounts: its loop. -/
import Derived.Test.YtgbncncmoiadaaaCountsA
namespace Go.Proofs.Ytgbncncmoiadaaa.Ex
open Go
set_option linter.unusedVariables false
structure F.Ct where
  s : ByteArray
  bad : Int
  i : Int
def F.counts (d : ByteArray) (times : Int) : Nat → F.Ct → F.Ct
  | 0, c => c
  | k + 1, c => if c.i < times ∧ c.i < 40 then F.counts d times k ⟨F.held (c.s ++ d), F.badOf (c.s ++ d) c.bad, c.i + 1⟩ else c
theorem counts_rounds {d : ByteArray} {times : Int} (hd : d.size ≤ 1048576) : ∀ (k : Nat) (c : F.Ct), (40 - c.i).toNat < k → c.s.size ≤ 69 → (0 ≤ c.bad ∧ c.bad ≤ 65535) → (0 ≤ c.i ∧ c.i ≤ 40) →
    LoopSpec Try.prog 0 counts_loop (frCounts d times c.bad c.i) [rdB c.s c.bad] ⟨.exit 0, frCounts d times (F.counts d times k c).bad (F.counts d times k c).i, [rdB (F.counts d times k c).s (F.counts d times k c).bad], []⟩
  | 0, c, h, _, _, _ => absurd h (Nat.not_lt_zero _)
  | k + 1, c, h, hs, hb, hi => by
    have hg := badOf_fit (s := c.s ++ d) hb
    unfold F.counts
    by_cases hc : c.i < times ∧ c.i < 40
    · rw [if_pos hc]
      have next := counts_rounds (times := times) hd k ⟨F.held (c.s ++ d), F.badOf (c.s ++ d) c.bad, c.i + 1⟩ (by show (40 - (c.i + 1)).toNat < k; omega) (held_size _) ⟨hg.1, hg.2.1⟩ ⟨by show 0 ≤ c.i + 1; omega, by show c.i + 1 ≤ 40; omega⟩
      refine .more (o1 := ⟨.normal, frCounts d times (F.badOf (c.s ++ d) c.bad) (c.i + 1), [rdB (F.held (c.s ++ d)) (F.badOf (c.s ++ d) c.bad)], []⟩) ?_ rfl next (fun j hj => by cases hj)
      by_cases hn : (F.read (bl (c.s ++ d))).fs = []
      · exact counts_round0 c.s d times c.bad c.i (by omega) hb hi hg hn _ (fun _ _ => ⟨rfl, rfl, rfl, fun j hj => hj⟩) (fun h0 h1 => absurd hc.2 h1) (fun h0 => absurd hc.1 h0)
      · exact counts_round c.s d times c.bad c.i (by omega) hb hi hg hn _ (fun _ _ => ⟨rfl, rfl, rfl, fun j hj => hj⟩) (fun h0 h1 => absurd hc.2 h1) (fun h0 => absurd hc.1 h0)
    · rw [if_neg hc]
      refine .last ?_ (by intro h; cases h)
      by_cases hn : (F.read (bl (c.s ++ d))).fs = []
      · exact counts_round0 c.s d times c.bad c.i (by omega) hb hi hg hn _ (fun h0 h1 => absurd ⟨h0, h1⟩ hc) (fun _ _ => ⟨rfl, rfl, rfl, fun j hj => hj⟩) (fun _ => ⟨rfl, rfl, rfl, fun j hj => hj⟩)
      · exact counts_round c.s d times c.bad c.i (by omega) hb hi hg hn _ (fun h0 h1 => absurd ⟨h0, h1⟩ hc) (fun _ _ => ⟨rfl, rfl, rfl, fun j hj => hj⟩) (fun _ => ⟨rfl, rfl, rfl, fun j hj => hj⟩)
def F.countsS (d : ByteArray) (times : Int) : F.Ct := F.counts d times 41 ⟨⟨#[]⟩, 0, 0⟩
theorem counts_told {d : ByteArray} {times : Int} (hd : d.size ≤ 1048576) : CodeSpec Try.prog 0 counts_loopC (frCounts d times 0 0) [rdB ⟨#[]⟩ 0] ⟨.exit 0, frCounts d times (F.countsS d times).bad (F.countsS d times).i, [rdB (F.countsS d times).s (F.countsS d times).bad], []⟩ :=
  (counts_rounds hd 41 ⟨⟨#[]⟩, 0, 0⟩ (by decide) (by decide) ⟨by decide, by decide⟩ ⟨by decide, by decide⟩).code
def countsSum (fr : Fr) (hp : Hp) : Out := match fr.get 0, fr.get 1 with
  | some (.string d), some (.int _ times) => ⟨.exit 0, frCounts d times (F.countsS d times).bad (F.countsS d times).i, [rdB (F.countsS d times).s (F.countsS d times).bad], []⟩
  | _, _ => ⟨.ret, fr, [], []⟩
end Go.Proofs.Ytgbncncmoiadaaa.Ex
