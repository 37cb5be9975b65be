/- FrameStands: its loop. -/
import Derived.Test.YtgbncncmoiadaaaStandsB
import Derived.Test.YtgbncncmoiadaaaSameB
namespace Go.Proofs.Ytgbncncmoiadaaa.Ex
open Go
set_option linter.unusedVariables false
theorem here_end {d s : List UInt8} {p : Nat} (h : F.here d s p = true) : p + s.length ≤ d.length := of_decide_eq_true (Bool.and_eq_true_iff.1 h).1
theorem chain_find {d : ByteArray} {e : Nat} {a : Nat} {f : F.Fm} {rest : List F.Fm} (h : Chain (bl d) e a (f :: rest)) :
    ∃ k : Nat, F.findK d (F.str (F.enc f)) (a : Int) = k ∧ k + (F.enc f).length ≤ d.size ∧ Chain (bl d) e (k + (F.enc f).length) rest := by
  obtain ⟨h0, p, h1, h2, h3⟩ := h
  have he := here_end h2
  rw [bl_len] at he
  obtain ⟨g1, g2, g3⟩ := findL_first (k := d.size + 1) h1 h2 (by omega)
  have ge := here_end g3
  rw [bl_len] at ge
  exact ⟨F.findL (bl d) (F.enc f) (d.size + 1) a, rfl, ge, h3.lower (by omega)⟩
theorem stand_end {d : ByteArray} {e : Nat} : ∀ {fs : List F.Fm} {a : Nat}, Chain (bl d) e a fs → F.stand d fs a + (e : Int) ≤ d.size
  | [], a, h => by
    have : a + e ≤ (bl d).length := h
    rw [bl_len] at this
    show (a : Int) + _ ≤ _
    omega
  | f :: rest, a, h => by
    obtain ⟨k, e1, _, e3⟩ := chain_find h
    have := stand_end e3
    show F.stand d rest (F.findK d (F.str (F.enc f)) (a : Int) + _) + _ ≤ _
    rw [e1]
    exact this
theorem findL_le {d s : List UInt8} : ∀ (k i : Nat), F.findL d s k i ≤ i + k
  | 0, i => Nat.le_refl _
  | k + 1, i => by
    unfold F.findL
    have := findL_le (d := d) (s := s) k (i + 1)
    cases F.here d s i
    · show F.findL d s k (i + 1) ≤ _
      omega
    · show i ≤ _
      omega
theorem stands_rounds {d s : ByteArray} {bad : Int} {e : Nat} {fs : List F.Fm} (hd : d.size ≤ 1048576) (hn : fs.length ≤ 1048576) : ∀ (rest pre : List F.Fm) (a : Nat), Chain (bl d) e a rest → fs = pre ++ rest →
    LoopSpec Try.prog 0 stands_loop (frStands d fs.length a pre.length) [rdB s bad, .own 23 (F.cells fs)] ⟨.exit 0, frStands d fs.length (F.stand d rest a) fs.length, [rdB s bad, .own 23 (F.cells fs)], []⟩
  | [], pre, a, h, hfs => by
    have hl : pre.length = fs.length := by rw [hfs, List.append_nil]
    rw [hl]
    refine .last (stands_round d s ⟨#[]⟩ bad a fs.length 0 0 fs.length (F.cells fs) (cells_length fs) ⟨by omega, by omega⟩ (by omega) (by decide) (by decide) (by decide) ⟨Int.natCast_nonneg _, ?_⟩ (fun h => absurd h (by omega)) (fun h => absurd h (by omega)) _ (fun h => absurd h (by omega)) (fun _ => ⟨rfl, rfl, rfl, fun j hj => hj⟩)) (by intro h; cases h)
    have h1 : a + e ≤ (bl d).length := h
    rw [bl_len] at h1
    have h2 := findL_le (d := bl d) (s := bl (F.encS 0 0 ⟨#[]⟩)) (d.size + 1) a
    have h3 : F.findK d (F.encS 0 0 ⟨#[]⟩) (a : Int) = (F.findL (bl d) (bl (F.encS 0 0 ⟨#[]⟩)) (d.size + 1) a : Nat) := by
      unfold F.findK
      rw [Int.toNat_natCast]
    rw [h3]
    omega
  | f :: rest, pre, a, h, hfs => by
    have hl : pre.length + 1 + rest.length = fs.length := by rw [hfs]; simp; omega
    have hf : fs[pre.length]? = some f := by rw [hfs]; simp
    have hc := holds3_all fs pre.length f hf
    obtain ⟨k, e1, e2, e3⟩ := chain_find h
    obtain ⟨h0, p, h1, h2, h3⟩ := h
    obtain ⟨c1, c2⟩ := encS_fm f h0
    have hz : (F.encS ((f.seq.toNat : Nat) : Int) ((f.id.toNat : Nat) : Int) (F.str f.p)).size = (F.enc f).length := by rw [c2, str_size]
    have hz2 := enc_len f
    have next := stands_rounds (s := s) (bad := bad) hd hn rest (pre ++ [f]) (k + (F.enc f).length) e3 (by rw [hfs, List.append_assoc]; rfl)
    have hst : F.stand d (f :: rest) (a : Int) = F.stand d rest ((k + (F.enc f).length : Nat) : Int) := by
      show F.stand d rest (F.findK d (F.str (F.enc f)) (a : Int) + _) = _
      rw [e1]
      rfl
    rw [hst]
    have hpl : (pre ++ [f]).length = pre.length + 1 := by simp
    rw [hpl] at next
    refine .more (o1 := ⟨.normal, frStands d fs.length ((k + (F.enc f).length : Nat) : Int) ((pre.length + 1 : Nat) : Int), [rdB s bad, .own 23 (F.cells fs)], []⟩) (stands_round d s (F.str f.p) bad a pre.length _ _ fs.length (F.cells fs) (cells_length fs) ⟨by omega, by omega⟩ (by omega) (by rw [str_size]; omega) c1 (by rw [hz]; omega) (by rw [c2, e1]; omega) (fun _ => ?_) (fun _ => ?_) _ (fun _ => ?_) (fun h => absurd (show (pre.length : Int) < (fs.length : Int) by omega) h)) rfl next (fun j hj => by cases hj)
    · exact find_done (by rw [hz]; omega) (Int.natCast_nonneg _) (p := p) (by rw [Int.toNat_natCast]; exact h1) (by rw [c2, bl_str]; exact h2)
    · rw [Int.toNat_natCast, hc.2]
      rfl
    · rw [hz, c2, e1]
      exact ⟨rfl, rfl, rfl, fun j hj => hj⟩
theorem stands_told {d s : ByteArray} {bad : Int} {e : Nat} {fs : List F.Fm} (hd : d.size ≤ 1048576) (hn : fs.length ≤ 1048576) (h : Chain (bl d) e 0 fs) :
    CodeSpec Try.prog 0 stands_loopC (frStands d fs.length 0 0) [rdB s bad, .own 23 (F.cells fs)] ⟨.exit 0, frStands d fs.length (F.stand d fs 0) fs.length, [rdB s bad, .own 23 (F.cells fs)], []⟩ := (stands_rounds hd hn fs [] 0 h rfl).code
/-- Where the last one that is read stands. -/
def F.standOf (d : ByteArray) : Int := F.stand d (F.read (bl d)).fs 0
def standsLSum (fr : Fr) (hp : Hp) : Out := match fr.get 0, fr.get 4 with
  | some (.string d), some (.slice _ n _) => ⟨.exit 0, frStands d n (F.standOf d) n, hp, []⟩
  | _, _ => ⟨.ret, fr, [], []⟩
theorem chain_all (d : ByteArray) : Chain (bl d) (F.held d).size 0 (F.read (bl d)).fs := by
  have := read_chain (bl d) ((bl d).length + 1) 0 (by omega) (Nat.zero_le _)
  rw [List.drop_zero] at this
  unfold F.held
  rw [str_size]
  exact this
theorem stand_fits : ∀ {d : ByteArray} {e : Nat} {fs : List F.Fm} {a : Nat}, Chain (bl d) e a fs → 0 ≤ F.stand d fs a ∧ F.stand d fs a ≤ d.size
  | d, e, [], a, h => by
    have : a + e ≤ (bl d).length := h
    rw [bl_len] at this
    show 0 ≤ (a : Int) ∧ (a : Int) ≤ _
    omega
  | d, e, f :: rest, a, h => by
    obtain ⟨k, e1, _, e3⟩ := chain_find h
    show 0 ≤ F.stand d rest (F.findK d (F.str (F.enc f)) (a : Int) + _) ∧ F.stand d rest (F.findK d (F.str (F.enc f)) (a : Int) + _) ≤ _
    rw [e1]
    exact stand_fits e3
end Go.Proofs.Ytgbncncmoiadaaa.Ex
