/- Regions whose order is drawn may be run in the order of the text. -/
import Derived.Test.YtfjlaplhglfcaaaExZ5
namespace Go.Proofs.Ytfjlaplhglfcaaa.Ex
open Go
set_option linter.unusedVariables false
set_option linter.unusedSimpArgs false
section
variable {P : Program} {ops : Array Oper} {f : Nat → Fr} {h : Nat → Hp} {s : Nat → Step} {w0 : World} {ν0 : Nu} {m : Nat} {wx : List Nat}
/-- How many are not done. -/
def rest (listed : Array Bool) : Nat := (listed.toList.filter fun b => !b).length
theorem rest_set : ∀ (l : List Bool) (i : Nat), l[i]? = some false → ((l.set i true).filter fun b => !b).length + 1 = (l.filter fun b => !b).length
  | [], i, h => by simp at h
  | x :: l, 0, h => by simp at h; subst h; simp
  | x :: l, i + 1, h => by
    have := rest_set l i (by simpa using h)
    cases x <;> simp at this ⊢ <;> omega
theorem Text.any (T : Text P ops f h s) {Q : Exit → Act → World → Prop} {d : List Deferred}
    (hQ : ∀ S ν (a : Act) w, (∀ k, k < ops.size → S k = true) → Stand P ops f h s w0 ν0 m wx S ν a.tmps w → a.defers = d → Q .normal a w) :
    ∀ (n : Nat) (listed : Array Bool) (ν : Nu) (a : Act) (w : World), rest listed = n → listed.size = ops.size →
      (∀ (j : Nat) (o : Oper) (e : Edge), don listed j = true → ops[j]? = some o → e ∈ o.after.toList → Region.binds .any e = true → don listed e.on = true) →
      Stand P ops f h s w0 ν0 m wx (don listed) ν a.tmps w → a.defers = d → wpAny P .any ops Q n listed a w := by
  have fin : ∀ (listed : Array Bool) (ν : Nu) (a : Act) (w : World), listed.size = ops.size → Stand P ops f h s w0 ν0 m wx (don listed) ν a.tmps w → a.defers = d → Region.ready .any ops listed = [] → Q .normal a w :=
    fun listed ν a w hl st hd hr => hQ _ ν a w (fun k hk => by
      have := ready_nil hl T.back hr k hk
      unfold don
      rw [Array.getD_eq_getD_getElem?, Array.getElem?_eq_getElem (by omega)] at this ⊢
      exact this) st hd
  intro n
  induction n with
  | zero =>
    intro listed ν a w hn hl hcl st hd
    have hr : Region.ready .any ops listed = [] := by
      cases hx : Region.ready .any ops listed with
      | nil => rfl
      | cons i r =>
        obtain ⟨h1, h2, _⟩ := ready_spec.1 (by rw [hx]; simp : i ∈ Region.ready .any ops listed)
        rw [Array.getD_eq_getD_getElem?, Array.getElem?_eq_getElem (by omega)] at h2
        have := rest_set listed.toList i (by rw [Array.getElem?_toList, Array.getElem?_eq_getElem (by omega)]; simpa using h2)
        unfold rest at hn
        omega
    exact ⟨hr, fin listed ν a w hl st hd hr⟩
  | succ n ih =>
    intro listed ν a w hn hl hcl st hd
    refine ⟨fin listed ν a w hl st hd, fun i hi => T.op hl hcl hi st fun ν' a' w' st' hd' => ih _ ν' a' w' ?_ (by simpa using hl) ?_ st' (hd'.trans hd)⟩
    · obtain ⟨h1, h2, _⟩ := ready_spec.1 hi
      rw [Array.getD_eq_getD_getElem?, Array.getElem?_eq_getElem (by omega)] at h2
      have := rest_set listed.toList i (by rw [Array.getElem?_toList, Array.getElem?_eq_getElem (by omega)]; simpa using h2)
      unfold rest at hn ⊢
      rw [Array.toList_setIfInBounds]
      omega
    · obtain ⟨h1, _, o, ho, hed⟩ := ready_spec.1 hi
      have hm : don (listed.setIfInBounds i true) = more (don listed) i := more_set (by omega)
      intro j o' e hj ho' he hb
      rw [hm] at hj ⊢
      unfold more at hj ⊢
      rw [Bool.or_eq_true] at hj ⊢
      rcases hj with hj | hj
      · exact .inl (hcl j o' e hj ho' he hb)
      · have : j = i := by simpa using hj
        subst this
        rw [ho] at ho'
        cases ho'
        exact .inl (hed e he hb)
theorem drawn_sat {call : CallF} (hN : Named P) (hm : P.follows .mixedOrders = true) (hcall : Sound P call) : Drawn P call := by
  intro id m ops fr hp hcs
  refine Sat.bind (seqs_sat hN hcall ops.toList fr hp [] []) fun r hr => Sat.bind_chk fun hc => Sat.ret _ ?_
  obtain ⟨f, h, s, e1, e2, e3, e4, e5, e6, e7⟩ := hr
  subst e1
  subst e2
  intro w0 ν0 ν wx a w Q hi hfr hQ
  rw [e7] at hc
  obtain ⟨hb, hcl⟩ := calm_spec hcs hc
  have hst : ∀ k, k < ops.size → (([] : List Step).reverse ++ (List.range ops.toList.length).map s).getD k ⟨[], [], 0, 0⟩ = s k := fun k hk => by
    simp [List.getD_eq_getElem?_getD, List.getElem?_range, hk]
  have T : Text P ops f h s := ⟨fun k o ho => e3 k o (by simpa using ho), hb, fun i j hij hj => by
    have := hcl i j hij hj
    rw [hst i (by omega), hst j hj] at this
    exact this⟩
  have hn : ops.toList.length = ops.size := by simp
  rw [hn] at e4 e5 e6
  have hi' : Inv P w0 ν0 m ν (h 0) wx { w with drawn := w.drawn + 1 } := ⟨⟨hi.rep.dom, fun id => (hi.rep.blk id).le (Le.refl _) (fun _ _ _ => rfl) (Nat.le_refl _), hi.rep.sep⟩, hi.len, hi.same, hi.os, hi.tape, hi.output, hi.size, hi.frame, hi.fresh⟩
  have hdon : don (Array.replicate ops.size false) = fun _ => false := by
    funext k
    unfold don
    rw [Array.getD_eq_getD_getElem?, Array.getElem?_replicate]
    split <;> rfl
  have hst0 := Stand.init (ops := ops) (s := s) (fun k hk => T.mono 0 k (Nat.zero_le _) hk) hi' hfr
  rw [← hdon] at hst0
  refine wp_region_any hm (T.any (m := m) (wx := wx) (w0 := w0) (ν0 := ν0) (d := a.defers) (fun S ν' a' w' hS st hd => ?_) ops.size (Array.replicate ops.size false) ν a _ ?_ (by simp) (fun j o e hj => by rw [hdon] at hj; cases hj) hst0 rfl)
  · obtain ⟨k1, k2⟩ := Stand.final (wr := r.2.2.1) (T.mono 0 ops.size (Nat.zero_le _) (Nat.le_refl _)) (T.flen ops.size (Nat.le_refl _)) hS (fun id => by rw [e6]; simp) (fun t k hk ht => (T.at hk).tmp (touchT_not hk ht)) (fun id k hk hid => (T.at hk).blk hid) st
    rw [e5] at k1
    rw [e4] at k2
    exact hQ ν' a' w' k1 k2 hd
  · unfold rest
    simp
end
end Go.Proofs.Ytfjlaplhglfcaaa.Ex
