/- VoteBetween: its inner loop, in one form. -/
import Derived.Test.YtfjlaplhglfcaaaBetwA
import Derived.Test.YtfjlaplhglfcaaaHoldsB
namespace Go.Proofs.Ytfjlaplhglfcaaa.Ex
open Go
set_option linter.unusedVariables false
/-- What is spoken. -/
def F.spoke (u : F.U) : List Int := (if u.o0 = true then [u.x0] else []) ++ ((if u.o1 = true then [u.x1] else []) ++ (if u.o2 = true then [u.x2] else []))
def F.loOf : List Int → Int
  | [] => 0
  | x :: l => l.foldl (fun a b => if b < a then b else a) x
def F.hiOf : List Int → Int
  | [] => 0
  | x :: l => l.foldl (fun a b => if b > a then b else a) x
def F.n (u : F.U) : Int := (F.spoke u).length
def F.lo (u : F.U) : Int := F.loOf (F.spoke u)
def F.hi (u : F.U) : Int := F.hiOf (F.spoke u)
/-- The six cells of a tick stand in a list of cells. -/
def F.at (cs : List Value) (i : Int) (u : F.U) : Prop := ∀ b, b < 6 → cs.getD (i.toNat * 6 + b) undef = u.cells.getD b undef
def betw2Sum (u : F.U) (fr : Fr) (hp : Hp) : Out := match fr.get 0, fr.get 5, hp with
  | some (.slice _ n _), some (.int _ i), [b0, b1, _] => ⟨.exit 2, frBetw2 i (F.n u) 3 n, [b0, b1, spanB (F.lo u) (F.hi u)], []⟩
  | _, _, _ => ⟨.ret, fr, [], []⟩
theorem betw2_told {i : Int} {n : Nat} {cs : List Value} {V : F.V} {u : F.U} (hn : n ≤ 2932031007403) (hl : cs.length = n * 6) (hi : 0 ≤ i ∧ i < n) (h : F.at cs i u) :
    CodeSpec Try.prog 1 betw_loop2 (frBetw2 i 0 0 n) [.ro 38 cs, V.blk 0 0, spanB 0 0] ⟨.exit 2, frBetw2 i (F.n u) 3 n, [.ro 38 cs, V.blk 0 0, spanB (F.lo u) (F.hi u)], []⟩ := by
  have g : ∀ a b, a + b < 6 → cs.getD (0 + Int.toNat i * 6 + a + b) undef = u.cells.getD (a + b) undef := fun a b hab => by
    have := h (a + b) hab
    rw [← this]
    congr 1
    omega
  have g0 := g 0 0 (by omega)
  have g1 := g 0 1 (by omega)
  have g2 := g 2 0 (by omega)
  have g3 := g 2 1 (by omega)
  have g4 := g 4 0 (by omega)
  have g5 := g 4 1 (by omega)
  have key : ∀ {c lo hi : Int}, c = F.n u → lo = F.lo u → hi = F.hi u → Out.le ⟨.exit 2, frBetw2 i c 3 n, [.ro 38 cs, V.blk 0 0, spanB lo hi], []⟩ ⟨.exit 2, frBetw2 i (F.n u) 3 n, [.ro 38 cs, V.blk 0 0, spanB (F.lo u) (F.hi u)], []⟩ := fun h1 h2 h3 => by
    rw [h1, h2, h3]; exact ⟨rfl, rfl, rfl, fun j hj => hj⟩
  apply betw_second i n cs V u hn hl hi
  all_goals first
    | (rw [g0]; rfl) | (rw [g1]; rfl) | (rw [g2]; rfl) | (rw [g3]; rfl) | (rw [g4]; rfl) | (rw [g5]; rfl) | skip
  all_goals
    intro h0 h1 h2
    refine key ?_ ?_ ?_ <;> simp [F.n, F.lo, F.hi, F.spoke, F.loOf, F.hiOf, h0, h1, h2]
end Go.Proofs.Ytfjlaplhglfcaaa.Ex
