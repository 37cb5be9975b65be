/- Feed's loop, all its rounds. -/
import Derived.Test.YtgbncncmoiadaaaFeedC
namespace Go.Proofs.Ytgbncncmoiadaaa.Ex
open Go
set_option linter.unusedVariables false
theorem pass_cons (b : UInt8) (l : List UInt8) : F.pass (b :: l) = bif b == 253 then b :: l else F.pass l := rfl
theorem pass_pass : ∀ l : List UInt8, F.pass (F.pass l) = F.pass l
  | [] => rfl
  | b :: l => by
    rw [pass_cons]
    cases h : b == 253
    · exact pass_pass l
    · show F.pass (b :: l) = b :: l
      rw [pass_cons, h]
      rfl
theorem look_good_len {l : List UInt8} {f : F.Fm} {k : Nat} (h : F.look l = .good f k) : 6 ≤ k ∧ k ≤ l.length ∧ f.p.length + 6 = k := by
  unfold F.look at h
  split at h
  · cases h
  split at h
  · cases h
  split at h
  · cases h
  split at h
  · simp only [F.Look.good.injEq] at h
    obtain ⟨rfl, rfl⟩ := h
    refine ⟨by omega, by omega, ?_⟩
    show (List.take _ _).length + 6 = _
    rw [List.length_take, List.length_drop]
    omega
  · cases h
theorem look_wrong_len {l : List UInt8} (h : F.look l = .wrong) : 2 ≤ l.length := by
  unfold F.look at h
  split at h
  · cases h
  · omega
theorem go_stop {l : List UInt8} {k : Nat} (h : F.look (F.pass l) = .stop) : F.go k l = ⟨[], 0, F.pass l⟩ := by
  cases k with
  | zero => rfl
  | succ k => unfold F.go; rw [h]
theorem go_wrong {l : List UInt8} {k : Nat} (h : F.look (F.pass l) = .wrong) : F.go (k + 1) l = ⟨(F.go k ((F.pass l).drop 1)).fs, (F.go k ((F.pass l).drop 1)).bad + 1, (F.go k ((F.pass l).drop 1)).held⟩ := by
  conv => lhs; unfold F.go
  rw [h]
theorem go_good {l : List UInt8} {k n : Nat} {f : F.Fm} (h : F.look (F.pass l) = .good f n) : F.go (k + 1) l = ⟨f :: (F.go k ((F.pass l).drop n)).fs, (F.go k ((F.pass l).drop n)).bad, (F.go k ((F.pass l).drop n)).held⟩ := by
  conv => lhs; unfold F.go
  rw [h]
theorem least_more {bad : Int} (hb : 0 ≤ bad ∧ bad ≤ 65535) (n : Nat) : F.least (F.more bad + (n : Int)) = F.least (bad + ((n + 1 : Nat) : Int)) := by
  unfold F.least F.more
  split <;> split <;> split <;> omega
theorem more_fit {bad : Int} (hb : 0 ≤ bad ∧ bad ≤ 65535) : 0 ≤ F.more bad ∧ F.more bad ≤ 65535 := by
  unfold F.more
  split <;> omega
theorem least_same {bad : Int} (hb : 0 ≤ bad ∧ bad ≤ 65535) : F.least (bad + ((0 : Nat) : Int)) = bad := by
  unfold F.least
  split <;> omega
theorem from_one (a : ByteArray) : F.from a 1 = F.str ((bl a).drop 1) := rfl
theorem str_len_lt {l : List UInt8} {n k : Nat} (h : l.length < n + 1) (hk : 1 ≤ k) (hp : k ≤ l.length) : (bl (F.str (l.drop k))).length < n := by
  rw [bl_str, List.length_drop]; omega
theorem pass_str (s : ByteArray) : (F.pass (bl s)).length ≤ (bl s).length := pass_len _
theorem feed_rounds : ∀ (k : Nat) {s : ByteArray} {bad : Int} {n : Nat} {cs : List Value}, (bl s).length < k → (bl s).length ≤ 9223372036854775000 → (0 ≤ bad ∧ bad ≤ 65535) → n + (F.go k (bl s)).fs.length ≤ 4398046510000 → cs.length = n * 3 →
    LoopSpec Try.prog 1 feed_loop (frFeed n) [rdB s bad, .own 23 cs] ⟨.exit 0, frFeed (n + (F.go k (bl s)).fs.length), [rdB (F.str (F.go k (bl s)).held) (F.least (bad + ((F.go k (bl s)).bad : Nat))), .own 23 (cs ++ F.cells (F.go k (bl s)).fs)], [0]⟩
  | 0, s, bad, n, cs, h, _, _, _, _ => absurd h (Nat.not_lt_zero _)
  | k + 1, s, bad, n, cs, h, hs, hb, hn, hl => by
    have hz : s.size ≤ 9223372036854775000 := by rw [← bl_len]; exact hs
    have hp := pass_str s
    cases hlk : F.look (F.pass (bl s)) with
    | stop =>
      rw [go_stop hlk] at hn ⊢
      refine .last (feed_step hz hb (by simp at hn; omega) hl _ (fun _ => ?_) (fun e => by rw [seek_bl, hlk] at e; cases e) (fun f j e => by rw [seek_bl, hlk] at e; cases e)) (by intro h; cases h)
      rw [least_same hb]
      exact ⟨rfl, rfl, by rw [show cs ++ F.cells ([] : List F.Fm) = cs from List.append_nil cs]; rfl, fun j hj => hj⟩
    | wrong =>
      have hw := look_wrong_len hlk
      have hd : (bl (F.str ((F.pass (bl s)).drop 1))).length < k := by rw [bl_str, List.length_drop]; omega
      rw [go_wrong hlk] at hn ⊢
      have next := feed_rounds k (s := F.str ((F.pass (bl s)).drop 1)) (bad := F.more bad) (n := n) (cs := cs) hd (by rw [bl_str, List.length_drop]; omega) (more_fit hb) hn hl
      rw [bl_str, least_more hb] at next
      refine .more (o1 := ⟨.normal, frFeed n, [rdB (F.from (F.seek s) 1) (F.more bad), .own 23 cs], [0, 0, 0]⟩) (feed_step hz hb (by simp at hn; omega) hl _ (fun e => by rw [seek_bl, hlk] at e; cases e) (fun _ => ⟨rfl, rfl, rfl, fun j hj => hj⟩) (fun f j e => by rw [seek_bl, hlk] at e; cases e)) rfl next (fun j hj _ => by simp at hj; simp [hj])
    | good f j =>
      have hw := look_good_len hlk
      have hd : (bl (F.str ((F.pass (bl s)).drop j))).length < k := by rw [bl_str, List.length_drop]; omega
      rw [go_good hlk] at hn ⊢
      have hn' : n + ((F.go k ((F.pass (bl s)).drop j)).fs.length + 1) ≤ 4398046510000 := hn
      have next := feed_rounds k (s := F.str ((F.pass (bl s)).drop j)) (bad := bad) (n := n + 1) (cs := cs ++ f.cells) hd (by rw [bl_str, List.length_drop]; omega) hb (by rw [bl_str]; omega) (by rw [List.length_append, hl, Nat.succ_mul]; rfl)
      rw [bl_str, List.append_assoc, ← cells_cons, Nat.add_assoc, Nat.add_comm 1] at next
      refine .more (o1 := ⟨.normal, frFeed (n + 1), [rdB (F.from (F.seek s) ((j : Nat) : Int)) bad, .own 23 (cs ++ f.cells)], [0, 0]⟩) (feed_step hz hb (by omega) hl _ (fun e => by rw [seek_bl, hlk] at e; cases e) (fun e => by rw [seek_bl, hlk] at e; cases e) (fun f' j' e => ?_)) rfl next (fun j hj _ => by simp at hj; simp [hj])
      rw [seek_bl, hlk] at e
      cases e
      exact ⟨rfl, rfl, rfl, fun j hj => hj⟩
/-- Nothing read yet, and nothing is. -/
theorem feed_rounds0 : ∀ (k : Nat) {s : ByteArray} {bad : Int}, (bl s).length < k → (bl s).length ≤ 9223372036854775000 → (0 ≤ bad ∧ bad ≤ 65535) → (F.go k (bl s)).fs = [] →
    LoopSpec Try.prog 1 feed_loop frFeed0 [rdB s bad] ⟨.exit 0, frFeed0, [rdB (F.str (F.go k (bl s)).held) (F.least (bad + ((F.go k (bl s)).bad : Nat)))], [0]⟩
  | 0, s, bad, h, _, _, _ => absurd h (Nat.not_lt_zero _)
  | k + 1, s, bad, h, hs, hb, hn => by
    have hz : s.size ≤ 9223372036854775000 := by rw [← bl_len]; exact hs
    have hp := pass_str s
    cases hlk : F.look (F.pass (bl s)) with
    | stop =>
      rw [go_stop hlk]
      refine .last (feed_step0 hz hb _ (fun _ => ?_) (fun e => by rw [seek_bl, hlk] at e; cases e) (fun f j e => by rw [seek_bl, hlk] at e; cases e)) (by intro h; cases h)
      rw [least_same hb]
      exact ⟨rfl, rfl, rfl, fun j hj => hj⟩
    | wrong =>
      have hw := look_wrong_len hlk
      have hd : (bl (F.str ((F.pass (bl s)).drop 1))).length < k := by rw [bl_str, List.length_drop]; omega
      rw [go_wrong hlk] at hn ⊢
      have next := feed_rounds0 k (s := F.str ((F.pass (bl s)).drop 1)) (bad := F.more bad) hd (by rw [bl_str, List.length_drop]; omega) (more_fit hb) hn
      rw [bl_str, least_more hb] at next
      refine .more (o1 := ⟨.normal, frFeed0, [rdB (F.from (F.seek s) 1) (F.more bad)], [0, 0, 0]⟩) (feed_step0 hz hb _ (fun e => by rw [seek_bl, hlk] at e; cases e) (fun _ => ⟨rfl, rfl, rfl, fun j hj => hj⟩) (fun f j e => by rw [seek_bl, hlk] at e; cases e)) rfl next (fun j hj _ => by simp at hj; simp [hj])
    | good f j =>
      rw [go_good hlk] at hn
      cases hn
/-- Nothing read yet, and something is. -/
theorem feed_rounds1 : ∀ (k : Nat) {s : ByteArray} {bad : Int}, (bl s).length < k → (bl s).length ≤ 9223372036854775000 → (0 ≤ bad ∧ bad ≤ 65535) → (F.go k (bl s)).fs ≠ [] → (F.go k (bl s)).fs.length ≤ 4398046510000 →
    LoopSpec Try.prog 1 feed_loop frFeed0 [rdB s bad] ⟨.exit 0, frFeed (F.go k (bl s)).fs.length, [rdB (F.str (F.go k (bl s)).held) (F.least (bad + ((F.go k (bl s)).bad : Nat))), .own 23 (F.cells (F.go k (bl s)).fs)], [0]⟩
  | 0, s, bad, h, _, _, _, _ => absurd h (Nat.not_lt_zero _)
  | k + 1, s, bad, h, hs, hb, hn, hc => by
    have hz : s.size ≤ 9223372036854775000 := by rw [← bl_len]; exact hs
    have hp := pass_str s
    cases hlk : F.look (F.pass (bl s)) with
    | stop =>
      rw [go_stop hlk] at hn
      exact absurd rfl hn
    | wrong =>
      have hw := look_wrong_len hlk
      have hd : (bl (F.str ((F.pass (bl s)).drop 1))).length < k := by rw [bl_str, List.length_drop]; omega
      rw [go_wrong hlk] at hn hc ⊢
      have next := feed_rounds1 k (s := F.str ((F.pass (bl s)).drop 1)) (bad := F.more bad) hd (by rw [bl_str, List.length_drop]; omega) (more_fit hb) hn hc
      rw [bl_str, least_more hb] at next
      refine .more (o1 := ⟨.normal, frFeed0, [rdB (F.from (F.seek s) 1) (F.more bad)], [0, 0, 0]⟩) (feed_step0 hz hb _ (fun e => by rw [seek_bl, hlk] at e; cases e) (fun _ => ⟨rfl, rfl, rfl, fun j hj => hj⟩) (fun f j e => by rw [seek_bl, hlk] at e; cases e)) rfl next (fun j hj _ => by simp at hj; simp [hj])
    | good f j =>
      have hw := look_good_len hlk
      have hd : (bl (F.str ((F.pass (bl s)).drop j))).length < k := by rw [bl_str, List.length_drop]; omega
      rw [go_good hlk] at hc ⊢
      have hc' : (F.go k ((F.pass (bl s)).drop j)).fs.length + 1 ≤ 4398046510000 := hc
      have next := feed_rounds k (s := F.str ((F.pass (bl s)).drop j)) (bad := bad) (n := 1) (cs := f.cells) hd (by rw [bl_str, List.length_drop]; omega) hb (by rw [bl_str]; omega) rfl
      rw [bl_str, ← cells_cons, Nat.add_comm 1] at next
      refine .more (o1 := ⟨.normal, frFeed 1, [rdB (F.from (F.seek s) ((j : Nat) : Int)) bad, .own 23 f.cells], [0, 0]⟩) (feed_step0 hz hb _ (fun e => by rw [seek_bl, hlk] at e; cases e) (fun e => by rw [seek_bl, hlk] at e; cases e) (fun f' j' e => ?_)) rfl next (fun j hj _ => by simp at hj; simp [hj])
      rw [seek_bl, hlk] at e
      cases e
      exact ⟨rfl, rfl, rfl, fun j hj => hj⟩
theorem feed_told {s : ByteArray} {bad : Int} (hs : s.size ≤ 9223372036854775000) (hb : 0 ≤ bad ∧ bad ≤ 65535) (hn : (F.read (bl s)).fs ≠ []) (hc : (F.read (bl s)).fs.length ≤ 4398046510000) :
    CodeSpec Try.prog 1 feed_loopC frFeed0 [rdB s bad] ⟨.exit 0, frFeed (F.read (bl s)).fs.length, [rdB (F.str (F.read (bl s)).held) (F.least (bad + ((F.read (bl s)).bad : Nat))), .own 23 (F.cells (F.read (bl s)).fs)], [0]⟩ :=
  (feed_rounds1 _ (Nat.lt_succ_self _) (by rw [bl_len]; exact hs) hb hn hc).code
theorem feed_told0 {s : ByteArray} {bad : Int} (hs : s.size ≤ 9223372036854775000) (hb : 0 ≤ bad ∧ bad ≤ 65535) (hn : (F.read (bl s)).fs = []) :
    CodeSpec Try.prog 1 feed_loopC frFeed0 [rdB s bad] ⟨.exit 0, frFeed0, [rdB (F.str (F.read (bl s)).held) (F.least (bad + ((F.read (bl s)).bad : Nat)))], [0]⟩ :=
  (feed_rounds0 _ (Nat.lt_succ_self _) (by rw [bl_len]; exact hs) hb hn).code
/-- What is behind reading these bytes. -/
def F.held (s : ByteArray) : ByteArray := F.str (F.read (bl s)).held
def F.badOf (s : ByteArray) (bad : Int) : Int := F.least (bad + ((F.read (bl s)).bad : Nat))
def F.count (s : ByteArray) : Nat := (F.read (bl s)).fs.length
def F.out (s : ByteArray) : List Value := F.cells (F.read (bl s)).fs
def feedLSum (fr : Fr) (hp : Hp) : Out := match hp with
  | [.own 51 [.string s, .int _ bad]] => ⟨.exit 0, frFeed (F.count s), [rdB (F.held s) (F.badOf s bad), .own 23 (F.out s)], [0]⟩
  | _ => ⟨.ret, fr, [], []⟩
def feedLSum0 (fr : Fr) (hp : Hp) : Out := match hp with
  | [.own 51 [.string s, .int _ bad]] => ⟨.exit 0, frFeed0, [rdB (F.held s) (F.badOf s bad)], [0]⟩
  | _ => ⟨.ret, fr, [], []⟩
theorem stop_len {l : List UInt8} (h : F.look l = .stop) : l.length ≤ 69 := by
  unfold F.look at h
  split at h
  · omega
  split at h
  · cases h
  split at h
  · omega
  split at h <;> cases h
theorem go_held : ∀ (k : Nat) (l : List UInt8), l.length < k → (F.go k l).held.length ≤ 69 ∧ (F.go k l).held.length ≤ l.length ∧ (F.go k l).fs.length ≤ l.length
  | 0, l, h => absurd h (Nat.not_lt_zero _)
  | k + 1, l, h => by
    have hp := pass_len l
    cases hlk : F.look (F.pass l) with
    | stop =>
      rw [go_stop hlk]
      exact ⟨stop_len hlk, hp, Nat.zero_le _⟩
    | wrong =>
      have hw := look_wrong_len hlk
      have hd : ((F.pass l).drop 1).length = (F.pass l).length - 1 := List.length_drop
      rw [go_wrong hlk]
      obtain ⟨h1, h2, h3⟩ := go_held k ((F.pass l).drop 1) (by omega)
      exact ⟨h1, by show (F.go k _).held.length ≤ _; omega, by show (F.go k _).fs.length ≤ _; omega⟩
    | good f j =>
      have hw := look_good_len hlk
      have hd : ((F.pass l).drop j).length = (F.pass l).length - j := List.length_drop
      rw [go_good hlk]
      obtain ⟨h1, h2, h3⟩ := go_held k ((F.pass l).drop j) (by omega)
      exact ⟨h1, by show (F.go k _).held.length ≤ _; omega, by show (F.go k _).fs.length + 1 ≤ _; omega⟩
theorem read_held (l : List UInt8) : (F.read l).held.length ≤ 69 ∧ (F.read l).held.length ≤ l.length ∧ (F.read l).fs.length ≤ l.length := go_held _ _ (Nat.lt_succ_self _)
theorem held_size (s : ByteArray) : (F.held s).size ≤ 69 := by
  unfold F.held
  rw [str_size]
  exact (read_held _).1
theorem badOf_fit {s : ByteArray} {bad : Int} (hb : 0 ≤ bad ∧ bad ≤ 65535) : 0 ≤ F.badOf s bad ∧ F.badOf s bad ≤ 65535 ∧ bad ≤ F.badOf s bad := by
  unfold F.badOf F.least
  split <;> omega
end Go.Proofs.Ytgbncncmoiadaaa.Ex
