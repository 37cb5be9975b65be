/- Read: all its rounds. -/
import Derived.Test.YtgbncncmoiadaaaReadD
namespace Go.Proofs.Ytgbncncmoiadaaa.Ex
open Go
set_option linter.unusedVariables false
def rdEnd (d : ByteArray) (P : List F.Fm) (k : Nat) (G : F.Got) : Out :=
  if G.held.length = 0 then ⟨.exit 0, frRead d (.slice none 0 0) 0 0 (oV (P ++ G.fs)) ((k + G.bad : Nat) : Int) d.size, oB (P ++ G.fs), []⟩
  else ⟨.ret, frRead d (oV (P ++ G.fs)) ((k + G.bad : Nat) : Int) (G.held.length : Nat) (oV (P ++ G.fs)) ((k + G.bad : Nat) : Int) ((d.size : Int) - (G.held.length : Nat)), oB (P ++ G.fs), []⟩
theorem rdEnd_wr (d : ByteArray) (P : List F.Fm) (k : Nat) (G : F.Got) : (rdEnd d P k G).ex ≠ .normal := by
  unfold rdEnd
  split <;> (intro h; cases h)
theorem read_rounds {d : ByteArray} (hd : d.size ≤ 4398046510000) : ∀ (m j k : Nat) (P : List F.Fm), d.size - j < m → j ≤ d.size → k ≤ j → P.length ≤ j →
    LoopSpec Try.prog 0 read_loop (frRead d (.slice none 0 0) 0 0 (oV P) k j) (oB P) (rdEnd d P k (F.read ((bl d).drop j)))
  | 0, j, k, P, h, _, _, _ => absurd h (Nat.not_lt_zero _)
  | m + 1, j, k, P, h, hj, hk, hP => by
    obtain ⟨l, hl⟩ : ∃ l, l = (bl d).drop j := ⟨_, rfl⟩
    have hll : l.length = d.size - j := by rw [hl, List.length_drop, bl_len]
    have hd1 : ∀ m, (bl d).drop (j + m) = l.drop m := fun m => by rw [hl, List.drop_drop]
    rw [← hl]
    match hq : l with
    | [] =>
      have hjs : j = d.size := by simp at hll; omega
      have e : F.read ([] : List UInt8) = ⟨[], 0, []⟩ := rfl
      rw [e]
      refine .last (read_step hd hl hj hk hP _ (fun _ => ?_) (fun h => absurd h (by omega)) (fun h => absurd h (by omega)) (fun h => absurd h (by omega)) (fun _ _ h => absurd h (by omega))) (rdEnd_wr _ _ _ _)
      show Out.le _ ⟨.exit 0, frRead d (.slice none 0 0) 0 0 (oV (P ++ [])) ((k + 0 : Nat) : Int) d.size, oB (P ++ []), []⟩
      rw [List.append_nil, Nat.add_zero, hjs]
      exact ⟨rfl, rfl, rfl, fun j hj => hj⟩
    | b :: r =>
      have hjs : j < d.size := by simp at hll; omega
      have hh : (((b :: r).getD 0 0).toNat : Int) = ((b.toNat : Nat) : Int) := rfl
      have hr1 : (bl d).drop (j + 1) = r := by rw [hd1 1]; rfl
      by_cases hb : b = 253
      · have hb3 : (((b :: r).getD 0 0).toNat : Int) = 253 := by rw [hh, hb]; rfl
        have hpl : F.pass (b :: r) = b :: r := by rw [hb]; rfl
        cases hlk : F.look (b :: r) with
        | stop =>
          have e := read_stop (l := b :: r) (by rw [hpl]; exact hlk)
          rw [hpl] at e
          rw [e]
          refine .last (read_step hd hl hj hk hP _ (fun h => absurd h (by omega)) (fun _ h => absurd hb3 h) (fun _ _ h => by rw [hlk] at h; cases h) (fun _ _ _ => ?_) (fun _ _ _ _ h => by rw [hlk] at h; cases h)) (rdEnd_wr _ _ _ _)
          show Out.le _ ⟨.ret, frRead d (oV (P ++ [])) ((k + 0 : Nat) : Int) ((b :: r).length : Nat) (oV (P ++ [])) ((k + 0 : Nat) : Int) ((d.size : Int) - ((b :: r).length : Nat)), oB (P ++ []), []⟩
          rw [List.append_nil, Nat.add_zero, hll, show ((d.size - j : Nat) : Int) = (d.size : Int) - j from by omega, show (d.size : Int) - ((d.size : Int) - j) = j from by omega]
          exact ⟨rfl, rfl, rfl, fun j hj => hj⟩
        | wrong =>
          have e := read_wrong (l := b :: r) (by rw [hpl]; exact hlk)
          rw [hpl] at e
          have next := read_rounds hd m (j + 1) (k + 1) P (by omega) (by omega) (by omega) (by omega)
          rw [hr1] at next
          have e2 : rdEnd d P k (F.read (b :: r)) = rdEnd d P (k + 1) (F.read r) := by
            rw [e]
            show rdEnd d P k ⟨(F.read r).fs, (F.read r).bad + 1, (F.read r).held⟩ = _
            unfold rdEnd
            show (if (F.read r).held.length = 0 then _ else _) = _
            rw [show k + ((F.read r).bad + 1) = k + 1 + (F.read r).bad from by omega]
          rw [e2]
          exact .more (o1 := ⟨.normal, frRead d (.slice none 0 0) 0 0 (oV P) ((k + 1 : Nat) : Int) ((j + 1 : Nat) : Int), oB P, []⟩) (read_step hd hl hj hk hP _ (fun h => absurd h (by omega)) (fun _ h => absurd hb3 h) (fun _ _ _ => ⟨rfl, rfl, rfl, fun j hj => hj⟩) (fun _ _ h => by rw [hlk] at h; cases h) (fun _ _ _ _ h => by rw [hlk] at h; cases h)) rfl next (fun j hj => by cases hj)
        | good f n =>
          have q := look_good_len hlk
          have e := read_good (l := b :: r) (f := f) (n := n) (by rw [hpl]; exact hlk)
          rw [hpl] at e
          have next := read_rounds hd m (j + n) k (P ++ [f]) (by omega) (by omega) (by omega) (by rw [List.length_append]; show P.length + 1 ≤ _; omega)
          rw [hd1 n] at next
          have e2 : rdEnd d P k (F.read (b :: r)) = rdEnd d (P ++ [f]) k (F.read ((b :: r).drop n)) := by
            rw [e]
            unfold rdEnd
            rw [List.append_assoc]
            rfl
          rw [e2]
          refine .more (o1 := ⟨.normal, frRead d (.slice none 0 0) 0 0 (oV (P ++ [f])) k ((j + n : Nat) : Int), oB (P ++ [f]), []⟩) (read_step hd hl hj hk hP _ (fun h => absurd h (by omega)) (fun _ h => absurd hb3 h) (fun _ _ h => by rw [hlk] at h; cases h) (fun _ _ h => by rw [hlk] at h; cases h) (fun f' n' _ _ h => ?_)) rfl next (fun j hj => by cases hj)
          rw [hlk] at h
          cases h
          exact ⟨rfl, rfl, rfl, fun j hj => hj⟩
      · have hb3 : ¬ (((b :: r).getD 0 0).toNat : Int) = 253 := fun h => hb (by
          apply UInt8.toNat_inj.1
          show b.toNat = 253
          rw [hh] at h
          omega)
        have next := read_rounds hd m (j + 1) k P (by omega) (by omega) (by omega) (by omega)
        rw [hr1, ← read_skip hb] at next
        exact .more (o1 := ⟨.normal, frRead d (.slice none 0 0) 0 0 (oV P) k ((j + 1 : Nat) : Int), oB P, []⟩) (read_step hd hl hj hk hP _ (fun h => absurd h (by omega)) (fun _ _ => ⟨rfl, rfl, rfl, fun j hj => hj⟩) (fun _ h => absurd h hb3) (fun _ h => absurd h hb3) (fun _ _ _ h => absurd h hb3)) rfl next (fun j hj => by cases hj)
end Go.Proofs.Ytgbncncmoiadaaa.Ex
