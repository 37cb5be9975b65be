/- FrameFeeds: its inner loops, told. -/
import Derived.Test.YtgbncncmoiadaaaFeedsA
namespace Go.Proofs.Ytgbncncmoiadaaa.Ex
open Go
set_option linter.unusedVariables false
def wipeC : List Value := [.int .i64 (-7), .int .i64 0, .string ⟨#[]⟩]
/-- The first frames written over. -/
def F.wipe (cs : List Value) : Nat → List Value
  | 0 => cs
  | k + 1 => put (F.wipe cs k) (0 + k * 3) wipeC
theorem wipe_len (cs : List Value) : ∀ k, (F.wipe cs k).length = cs.length
  | 0 => rfl
  | k + 1 => by
    show (((F.wipe cs k).set _ _).set _ _ |>.set _ _).length = _
    rw [List.length_set, List.length_set, List.length_set, wipe_len cs k]
theorem wipe_rounds {np na n : Nat} {ps bs cs : List Value} {s : ByteArray} {bad given i : Int} (hl : cs.length = n * 3) (hn : n ≤ 4194304) : ∀ (m k : Nat), k ≤ n → n - k = m →
    LoopSpec Try.prog 1 wipe_loop (frWipe np (.slice (some ⟨2, 0, none⟩) na na) given i (.slice (some ⟨3, 0, none⟩) n n) k) [.ro 9 ps, rdB s bad, .own 5 bs, .own 23 (F.wipe cs k)]
      ⟨.exit 2, frWipe np (.slice (some ⟨2, 0, none⟩) na na) given i (.slice (some ⟨3, 0, none⟩) n n) n, [.ro 9 ps, rdB s bad, .own 5 bs, .own 23 (F.wipe cs n)], []⟩
  | 0, k, h1, hm => by
    obtain rfl : k = n := by omega
    exact .last (wipe_round np ps s bad given i k na bs k (F.wipe cs k) (by rw [wipe_len, hl]) hn ⟨by omega, by omega⟩ _ (fun h => absurd h (by omega)) (fun _ => ⟨rfl, rfl, rfl, fun j hj => hj⟩)) (by intro h; cases h)
  | m + 1, k, h1, hm => by
    have next := wipe_rounds (np := np) (na := na) (ps := ps) (bs := bs) (s := s) (bad := bad) (given := given) (i := i) hl hn m (k + 1) (by omega) (by omega)
    exact .more (o1 := ⟨.normal, frWipe np (.slice (some ⟨2, 0, none⟩) na na) given i (.slice (some ⟨3, 0, none⟩) n n) ((k + 1 : Nat) : Int), [.ro 9 ps, rdB s bad, .own 5 bs, .own 23 (F.wipe cs (k + 1))], []⟩) (wipe_round np ps s bad given i k na bs n (F.wipe cs k) (by rw [wipe_len, hl]) hn ⟨by omega, by omega⟩ _ (fun _ => by rw [Int.toNat_natCast]; exact ⟨rfl, rfl, rfl, fun j hj => hj⟩) (fun h => absurd (show (k : Int) < (n : Int) by omega) h)) rfl next (fun j hj => by cases hj)
theorem wipe_told {np na n : Nat} {ps bs cs : List Value} {s : ByteArray} {bad given i : Int} (hl : cs.length = n * 3) (hn : n ≤ 4194304) :
    CodeSpec Try.prog 1 wipe_loopC (frWipe np (.slice (some ⟨2, 0, none⟩) na na) given i (.slice (some ⟨3, 0, none⟩) n n) 0) [.ro 9 ps, rdB s bad, .own 5 bs, .own 23 cs]
      ⟨.exit 2, frWipe np (.slice (some ⟨2, 0, none⟩) na na) given i (.slice (some ⟨3, 0, none⟩) n n) n, [.ro 9 ps, rdB s bad, .own 5 bs, .own 23 (F.wipe cs n)], []⟩ := (wipe_rounds hl hn n 0 (Nat.zero_le _) (by omega)).code
def wipeSum (fr : Fr) (hp : Hp) : Out := match fr.get 7, hp with
  | some (.slice _ n _), [a, b, c, .own _ cs] => ⟨.exit 2, fr.set 11 (some (.int .i64 (n : Nat))), [a, b, c, .own 23 (F.wipe cs n)], []⟩
  | _, _ => ⟨.ret, fr, [], []⟩
theorem nine_told0 {np : Nat} {ps : List Value} {s : ByteArray} {bad given i : Int} : CodeSpec Try.prog 1 nine_loopC (frNine np (.slice none 0 0) given i (.slice none 0 0)) [.ro 9 ps, rdB s bad] ⟨.exit 4, frFeeds np (.slice none 0 0) given i, [.ro 9 ps, rdB s bad], []⟩ :=
  nine0 np ps s bad given i _ ⟨rfl, rfl, rfl, fun j hj => hj⟩
theorem nine_told1 {np na ca : Nat} {ps bs : List Value} {s : ByteArray} {bad given i : Int} : CodeSpec Try.prog 1 nine_loopC (frNine np (.slice (some ⟨2, 0, none⟩) na ca) given i (.slice none 0 0)) [.ro 9 ps, rdB s bad, .own 5 bs] ⟨.exit 4, frFeeds np (.slice (some ⟨2, 0, none⟩) na ca) given i, [.ro 9 ps, rdB s bad, .own 5 bs], []⟩ :=
  nine1 np ps s bad given i na ca bs _ ⟨rfl, rfl, rfl, fun j hj => hj⟩
theorem nine_told2 {np na n : Nat} {ps bs cs : List Value} {s : ByteArray} {bad given i : Int} (hl : cs.length = n * 3) (hn : n ≤ 4194304) : CodeSpec Try.prog 1 nine_loopC (frNine np (.slice (some ⟨2, 0, none⟩) na na) given i (.slice (some ⟨3, 0, none⟩) n n)) [.ro 9 ps, rdB s bad, .own 5 bs, .own 23 cs] ⟨.exit 4, frFeeds np (.slice (some ⟨2, 0, none⟩) na na) given i, [.ro 9 ps, rdB s bad, .own 5 bs], []⟩ :=
  nine2 np ps s bad given i na bs n cs hl hn _ ⟨rfl, rfl, rfl, fun j hj => hj⟩
def nineSum0 (fr : Fr) (hp : Hp) : Out := match fr.get 0, fr.get 5, fr.get 6 with
  | some (.slice _ np _), some (.int _ given), some (.int _ i) => ⟨.exit 4, frFeeds np (.slice none 0 0) given i, hp, []⟩
  | _, _, _ => ⟨.ret, fr, [], []⟩
def nineSum1 (fr : Fr) (hp : Hp) : Out := match fr.get 0, fr.get 4, fr.get 5, fr.get 6, hp with
  | some (.slice _ np _), some al, some (.int _ given), some (.int _ i), a :: b :: c :: _ => ⟨.exit 4, frFeeds np al given i, [a, b, c], []⟩
  | _, _, _, _, _ => ⟨.ret, fr, [], []⟩
end Go.Proofs.Ytgbncncmoiadaaa.Ex
