/- FrameTurned: its loop. -/
import Derived.Test.YtgbncncmoiadaaaTurnedA
namespace Go.Proofs.Ytgbncncmoiadaaa.Ex
open Go
set_option linter.unusedVariables false
theorem cells_get : ∀ {fs : List F.Fm} {j : Nat} {f : F.Fm} (o : Nat), fs[j]? = some f → o < 3 → (F.cells fs).getD (j * 3 + o) undef = f.cells.getD o undef
  | [], j, f, o, h, _ => by simp at h
  | g :: fs, 0, f, o, h, ho => by
    simp only [List.getElem?_cons_zero, Option.some.injEq] at h
    subst h
    rw [Nat.zero_mul, Nat.zero_add, cells_cons, List.getD_eq_getElem?_getD, List.getD_eq_getElem?_getD, List.getElem?_append_left (by simp [F.Fm.cells]; exact ho)]
  | g :: fs, j + 1, f, o, h, ho => by
    have := cells_get (fs := fs) (j := j) (f := f) o (by simpa using h) ho
    have e : (j + 1) * 3 + o = g.cells.length + (j * 3 + o) := by simp [F.Fm.cells]; omega
    rw [cells_cons, e, List.getD_eq_getElem?_getD, List.getElem?_append_right (by omega), Nat.add_sub_cancel_left, ← List.getD_eq_getElem?_getD]
    exact this
theorem cells_pay {fs : List F.Fm} {j : Nat} {f : F.Fm} (h : fs[j]? = some f) : List.getD (F.cells fs) (0 + Int.toNat (j : Int) * 3 + 2) undef = .string (F.str f.p) := by
  rw [Nat.zero_add, Int.toNat_natCast, cells_get 2 h (by decide)]
  rfl
theorem turned_rounds {s p : ByteArray} {seq id bad : Int} {fs : List F.Fm} (hn : fs.length ≤ 4398046510000) (hall : ∀ f ∈ fs, f.p.length < p.size) : ∀ (k j : Nat), j ≤ fs.length → fs.length - j = k →
    LoopSpec Try.prog 0 turned_loop (frTurned fs.length j) [fmB seq id p, rdB s bad, .own 23 (F.cells fs)] ⟨.exit 0, frTurned fs.length fs.length, [fmB seq id p, rdB s bad, .own 23 (F.cells fs)], []⟩
  | 0, j, h1, hk => by
    have : j = fs.length := by omega
    subst this
    exact .last (turned_round s p p seq id bad fs.length fs.length (F.cells fs) (cells_length fs) hn ⟨by omega, by omega⟩ (fun h => absurd h (by omega)) _ (fun h => absurd h (by omega)) (fun h => absurd h (by omega)) (fun _ => ⟨rfl, rfl, rfl, fun j hj => hj⟩)) (by intro h; cases h)
  | k + 1, j, h1, hk => by
    obtain ⟨f, hf⟩ : ∃ f, fs[j]? = some f := ⟨fs[j]'(by omega), by simp⟩
    have hp := cells_pay hf
    have hlt := hall f (List.mem_of_getElem? hf)
    have next := turned_rounds (s := s) (p := p) (seq := seq) (id := id) (bad := bad) hn hall k (j + 1) (by omega) (by omega)
    refine .more (o1 := ⟨.normal, frTurned fs.length ((j : Int) + 1), [fmB seq id p, rdB s bad, .own 23 (F.cells fs)], []⟩) (turned_round s p p seq id bad j fs.length (F.cells fs) (cells_length fs) hn ⟨by omega, by omega⟩ (fun _ => by rw [hp]; rfl) _ (fun h0 h => ?_) (fun _ _ => ⟨rfl, rfl, rfl, fun j hj => hj⟩) (fun h => absurd (show (j : Int) < (fs.length : Int) by omega) h)) rfl next (fun j hj => by cases hj)
    rw [hp] at h
    have e : (strOf (Value.string (F.str f.p))).size = f.p.length := str_size f.p
    rw [e] at h
    exact absurd h (by omega)
theorem turned_told {s p : ByteArray} {seq id bad : Int} {fs : List F.Fm} (hn : fs.length ≤ 4398046510000) (hall : ∀ f ∈ fs, f.p.length < p.size) :
    CodeSpec Try.prog 0 turned_loopC (frTurned fs.length 0) [fmB seq id p, rdB s bad, .own 23 (F.cells fs)] ⟨.exit 0, frTurned fs.length fs.length, [fmB seq id p, rdB s bad, .own 23 (F.cells fs)], []⟩ :=
  (turned_rounds hn hall fs.length 0 (Nat.zero_le _) (by omega)).code
def turnedSum (fr : Fr) (hp : Hp) : Out := match fr.get 11 with
  | some (.slice _ n _) => ⟨.exit 0, frTurned n n, hp, []⟩
  | _ => ⟨.ret, fr, [], []⟩
end Go.Proofs.Ytgbncncmoiadaaa.Ex
