/- Regions whose order is drawn: the induction over the orders. -/
import Derived.Test.YtfjlaplhglfcaaaExZ4
namespace Go.Proofs.Ytfjlaplhglfcaaa.Ex
open Go
set_option linter.unusedVariables false
set_option linter.unusedSimpArgs false
section
variable {P : Program} {ops : Array Oper} {f : Nat → Fr} {h : Nat → Hp} {s : Nat → Step} {w0 : World} {ν0 : Nu} {m : Nat} {wx : List Nat}
def don (listed : Array Bool) : Nat → Bool := fun k => listed.getD k false
theorem Text.op (T : Text P ops f h s) {listed : Array Bool} {i : Nat} (hl : listed.size = ops.size) (hcl : ∀ (j : Nat) (o : Oper) (e : Edge), don listed j = true → ops[j]? = some o → e ∈ o.after.toList → Region.binds .any e = true → don listed e.on = true)
    (hi : i ∈ Region.ready .any ops listed) {ν : Nu} {a : Act} {w : World} (st : Stand P ops f h s w0 ν0 m wx (don listed) ν a.tmps w) {Q : Exit → Act → World → Prop} {K : Act → World → Prop}
    (hK : ∀ ν' a' w', Stand P ops f h s w0 ν0 m wx (don (listed.setIfInBounds i true)) ν' a'.tmps w' → a'.defers = a.defers → K a' w') : wpOp P ops Q i K a w := by
  obtain ⟨hin, hno, o, ho, hed⟩ := ready_spec.1 hi
  have hS : don listed i = false := by
    unfold don
    rw [Array.getD_eq_getD_getElem?, Array.getElem?_eq_getElem (by omega)] at hno ⊢
    exact hno
  have cl := before_closed (ops := ops) (S := fun k => don listed k = true) (fun j o e h1 h2 h3 h4 => hcl j o e h1 h2 h3 h4)
  have hrd : ∀ k, ((Region.before ops).getD i 0).testBit k = true → don listed k = true := fun k hb => by
    obtain ⟨o', e, q1, q2, q3, q4⟩ := before_edge hb
    rw [ho] at q1
    cases q1
    have he : don listed e.on = true := hed e q2 q3
    rcases q4 with rfl | ⟨_, q⟩
    · exact he
    · exact cl e.on k he q
  have hm : don (listed.setIfInBounds i true) = more (don listed) i := more_set (by omega)
  unfold wpOp
  rw [ho]
  dsimp only
  rcases T.one i o ho with ⟨hw, r, hr, e1, e2, e3⟩ | ⟨hw, e1, e2, e3⟩
  · have N : Next P ops f h s (don listed) i o r := T.next hin ho hS (fun j k _ h1 h2 => cl j k h1 h2) hrd e1 e2 (by rw [e3]) (by rw [e3]; exact hr.1)
    rw [if_pos (hw _ _ (N.seen st))]
    refine .inl (hr.2 _ a w (N.seen st).env (by have := N.pre st; rw [e3] at this; exact this) _ _ fun ν1 v' w' p hv => ?_)
    have q := Stand.step N st (by rw [e3]; exact p) hv
    rw [← hm] at q
    exact hK _ _ _ q put_defers
  · have N : Next P ops f h s (don listed) i o ⟨undef, h i, []⟩ := T.next hin ho hS (fun j k _ h1 h2 => cl j k h1 h2) hrd e1 e2 (by rw [e3]) (by rw [e3]; exact Shape.same _)
    rw [if_neg (by rw [hw _ _ (N.seen st)]; simp)]
    have q := Stand.step N st (v' := undef) (Post.refl_ (N.pre st) undef) ⟨#[], rfl, .nil⟩
    rw [← hm] at q
    exact hK _ _ _ q put_defers
end
end Go.Proofs.Ytfjlaplhglfcaaa.Ex
