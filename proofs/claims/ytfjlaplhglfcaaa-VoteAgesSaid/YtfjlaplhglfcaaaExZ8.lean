/- Loops: what is no more needed is forgotten between two rounds; a round, and then the rest. -/
import Derived.Test.YtfjlaplhglfcaaaExZ7
import Derived.LoopN
namespace Go.Proofs.Ytfjlaplhglfcaaa.Ex
open Go
set_option linter.unusedVariables false
section
variable {P : Program} {fr : Fr} {hp : Hp} {m : Nat} {c : Code}
theorem CodeSpec.tidy_in {keep : List Nat} {o t : Out} (h : tidy P m keep ⟨.normal, fr, hp, []⟩ = some t) (hs : CodeSpec P m c t.fr t.hp o) : CodeSpec P m c fr hp o :=
  fun w0 ν0 ν wr a w Q hi hfr hQ => let ⟨ν', h1, h2⟩ := (tidy_inv h).2.2 hi hfr; hs w0 ν0 ν' wr a w Q h1 h2 hQ
theorem CodeSpec.tidy_out {keep : List Nat} {o o2 : Out} (hs : CodeSpec P m c fr hp o) (h : tidy P m keep o = some o2) : CodeSpec P m c fr hp o2 :=
  fun w0 ν0 ν wr a w Q hi hfr hQ => hs w0 ν0 ν wr a w Q hi hfr fun ν' a' w' k1 k2 k3 => by
    obtain ⟨e1, e2, h3⟩ := tidy_inv h
    obtain ⟨ν2, h1, h2⟩ := h3 k1 k2
    rw [← e1]
    refine hQ ν2 a' w' (h1.wrs fun j hj hm => ?_) h2 k3
    rw [e2]
    simp only [List.mem_append, List.mem_filter, decide_eq_true_eq] at hj ⊢
    exact hj.imp (fun h => ⟨h, hm⟩) id
theorem CodeSpec.wrs {e : Xt} {fr' : Fr} {hp' : Hp} {wr wr' : List Nat} (hs : CodeSpec P m c fr hp ⟨e, fr', hp', wr⟩) (h : ∀ j, j ∈ wr → j < m → j ∈ wr') : CodeSpec P m c fr hp ⟨e, fr', hp', wr'⟩ :=
  fun w0 ν0 ν wx a w Q hi hfr hQ => hs w0 ν0 ν wx a w Q hi hfr fun ν' a' w' k1 k2 k3 => hQ ν' a' w' (k1.wrs fun j hj hm => by
    simp only [List.mem_append] at hj ⊢
    exact hj.imp (fun hj => h j hj hm) id) k2 k3
/-- A loop, its rounds counted. -/
def LoopSpec (P : Program) (m : Nat) (c : Code) (fr : Fr) (hp : Hp) (o : Out) : Prop :=
  ∃ n, ∀ w0 ν0 ν wr (a : Act) w (Q : Exit → Act → World → Prop), Inv P w0 ν0 m ν hp wr w → FrRel ν fr a.tmps →
    (∀ ν' (a' : Act) w', Inv P w0 ν0 m ν' o.hp (o.wr ++ wr) w' → FrRel ν' o.fr a'.tmps → a'.defers = a.defers → Q o.ex.of a' w') → Code.rounds P c Q n a w
theorem LoopSpec.code {o : Out} (h : LoopSpec P m c fr hp o) : CodeSpec P m (.loop c) fr hp o :=
  let ⟨n, h⟩ := h
  fun w0 ν0 ν wx a w Q hi hfr hQ => wp_loop_rounds n (h w0 ν0 ν wx a w Q hi hfr hQ)
theorem LoopSpec.tidy_in {keep : List Nat} {o t : Out} (h : tidy P m keep ⟨.normal, fr, hp, []⟩ = some t) (hs : LoopSpec P m c t.fr t.hp o) : LoopSpec P m c fr hp o :=
  let ⟨n, hs⟩ := hs
  ⟨n, fun w0 ν0 ν wr a w Q hi hfr hQ => let ⟨ν', h1, h2⟩ := (tidy_inv h).2.2 hi hfr; hs w0 ν0 ν' wr a w Q h1 h2 hQ⟩
/-- A round that goes on, and then the rest. -/
theorem LoopSpec.more {o1 o : Out} (h1 : CodeSpec P m c fr hp o1) (he : o1.ex = .normal) (h2 : LoopSpec P m c o1.fr o1.hp o) (hw : ∀ j, j ∈ o1.wr → j < m → j ∈ o.wr) : LoopSpec P m c fr hp o := by
  obtain ⟨n, h2⟩ := h2
  refine ⟨n + 1, fun w0 ν0 ν wx a w Q hi hfr hQ => ?_⟩
  rw [rounds_succ]
  refine h1 w0 ν0 ν wx a w _ hi hfr fun ν' a' w' k1 k2 k3 => ?_
  rw [he]
  refine h2 w0 ν0 ν' (o1.wr ++ wx) a' w' Q k1 k2 fun ν2 a2 w2 q1 q2 q3 => hQ ν2 a2 w2 (q1.wrs fun j hj hm => ?_) q2 (q3.trans k3)
  simp only [List.mem_append] at hj ⊢
  rcases hj with h | h | h
  · exact .inl h
  · exact .inl (hw j h hm)
  · exact .inr h
/-- The last round. -/
theorem LoopSpec.last {o : Out} (h1 : CodeSpec P m c fr hp o) (he : o.ex ≠ .normal) : LoopSpec P m c fr hp o := by
  refine ⟨1, fun w0 ν0 ν wx a w Q hi hfr hQ => ?_⟩
  rw [rounds_succ]
  refine h1 w0 ν0 ν wx a w _ hi hfr fun ν' a' w' k1 k2 k3 => ?_
  have := hQ ν' a' w' k1 k2 k3
  revert this
  cases hx : o.ex with
  | normal => exact absurd hx he
  | exit j => exact fun h => h
  | ret => exact fun h => h
/-- A piece of code, tidied behind. -/
def body (P : Program) (k m n : Nat) (keep : Xt → List Nat) (c : Code) (fr : Fr) (hp : Hp) : M Out := (run P (callA P (toldA P (exec P k))) m n c fr hp).bind fun o => lift (tidy P m (keep o.ex) o)
theorem body_ok (hN : Named P) (hC : Calm P) (hm : P.follows .mixedOrders = true) (k n : Nat) (keep : Xt → List Nat) (c : Code) (fr : Fr) (hp : Hp) (hc : calmC c = true) : Sat (body P k m n keep c fr hp) (CodeSpec P m c fr hp) :=
  Sat.bind (run_ok hN hC hm k m n c fr hp hc) fun o ho => Sat.lift fun o2 h => ho.tidy_out h
/-- The loops of a code, the outer one first. -/
def loopsIn : Code → List Code
  | .seq a b => loopsIn a ++ loopsIn b
  | .cond _ a b => loopsIn a ++ loopsIn b
  | .block _ a => loopsIn a
  | .loop a => a :: loopsIn a
  | _ => []
def loopAt (P : Program) (f : FuncId) (i : Nat) : Code := (((P.funcs[f]?).bind (·.body)).map fun c => (loopsIn c).getD i .skip).getD .skip
theorem loopsIn_calm : ∀ (c : Code), calmC c = true → ∀ l, l ∈ loopsIn c → calmC l = true
  | .seq a b, h, l, hl => by
    simp only [calmC, Bool.and_eq_true] at h
    rcases List.mem_append.1 hl with hl | hl
    · exact loopsIn_calm a h.1 l hl
    · exact loopsIn_calm b h.2 l hl
  | .cond _ a b, h, l, hl => by
    simp only [calmC, Bool.and_eq_true] at h
    rcases List.mem_append.1 hl with hl | hl
    · exact loopsIn_calm a h.1 l hl
    · exact loopsIn_calm b h.2 l hl
  | .block _ a, h, l, hl => loopsIn_calm a h l hl
  | .loop a, h, l, hl => by
    rcases List.mem_cons.1 hl with rfl | hl
    · exact h
    · exact loopsIn_calm a h l hl
  | .skip, _, l, hl | .label _, _, l, hl | .region _ _ _, _, l, hl | .exit _, _, l, hl | .ret, _, l, hl | .rangeFunc _ _ _ _, _, l, hl | .scope _, _, l, hl | .goto _, _, l, hl | .refuse _, _, l, hl => by cases hl
theorem loopAt_calm (hC : Calm P) (f : FuncId) (i : Nat) : calmC (loopAt P f i) = true := by
  unfold loopAt
  cases hf : P.funcs[f]? with
  | none => rfl
  | some fn =>
    cases hb : fn.body with
    | none => simp [hb, calmC]
    | some c =>
      simp only [Option.bind_some, hb, Option.map_some, Option.getD_some]
      rw [List.getD_eq_getElem?_getD]
      cases hl : (loopsIn c)[i]? with
      | none => rfl
      | some l => exact loopsIn_calm c (hC f fn c hf hb) l (List.mem_of_getElem? hl)
/-- The branchings of a code, the outer one first. -/
def condsIn : Code → List Code
  | .seq a b => condsIn a ++ condsIn b
  | .cond x a b => .cond x a b :: (condsIn a ++ condsIn b)
  | .block _ a => condsIn a
  | .loop a => condsIn a
  | _ => []
def condAt (P : Program) (f : FuncId) (i : Nat) : Code := (((P.funcs[f]?).bind (·.body)).map fun c => (condsIn c).getD i .skip).getD .skip
theorem condsIn_calm : ∀ (c : Code), calmC c = true → ∀ l, l ∈ condsIn c → calmC l = true
  | .seq a b, h, l, hl => by
    simp only [calmC, Bool.and_eq_true] at h
    rcases List.mem_append.1 hl with hl | hl
    · exact condsIn_calm a h.1 l hl
    · exact condsIn_calm b h.2 l hl
  | .cond _ a b, h, l, hl => by
    rcases List.mem_cons.1 hl with rfl | hl
    · exact h
    simp only [calmC, Bool.and_eq_true] at h
    rcases List.mem_append.1 hl with hl | hl
    · exact condsIn_calm a h.1 l hl
    · exact condsIn_calm b h.2 l hl
  | .block _ a, h, l, hl => condsIn_calm a h l hl
  | .loop a, h, l, hl => condsIn_calm a h l hl
  | .skip, _, l, hl | .label _, _, l, hl | .region _ _ _, _, l, hl | .exit _, _, l, hl | .ret, _, l, hl | .rangeFunc _ _ _ _, _, l, hl | .scope _, _, l, hl | .goto _, _, l, hl | .refuse _, _, l, hl => by cases hl
theorem condAt_calm (hC : Calm P) (f : FuncId) (i : Nat) : calmC (condAt P f i) = true := by
  unfold condAt
  cases hf : P.funcs[f]? with
  | none => rfl
  | some fn =>
    cases hb : fn.body with
    | none => simp [hb, calmC]
    | some c =>
      simp only [Option.bind_some, hb, Option.map_some, Option.getD_some]
      rw [List.getD_eq_getElem?_getD]
      cases hl : (condsIn c)[i]? with
      | none => rfl
      | some l => exact condsIn_calm c (hC f fn c hf hb) l (List.mem_of_getElem? hl)
/-- The same, but perhaps more written. -/
def Res.le (a b : Res) : Prop := a.v = b.v ∧ a.hp = b.hp ∧ ∀ j, j ∈ a.wr → j ∈ b.wr
def Out.le (a b : Out) : Prop := a.ex = b.ex ∧ a.fr = b.fr ∧ a.hp = b.hp ∧ ∀ j, j ∈ a.wr → j ∈ b.wr
theorem CallSpec.id {f : FuncId} {args : List Value} {r : Res} (h : CallSpec P f args hp r) : CallSpec P f args hp r := h
theorem CodeSpec.id {o : Out} (h : CodeSpec P m c fr hp o) : CodeSpec P m c fr hp o := h
theorem CallSpec.le {f : FuncId} {args : List Value} {a b : Res} (h : CallSpec P f args hp a) (hl : Res.le a b) : CallSpec P f args hp b := by
  obtain ⟨v, h1, w⟩ := a
  obtain ⟨v', h1', w'⟩ := b
  obtain ⟨rfl, rfl, hw⟩ := hl
  exact fun ν W args' ha hr => (h ν W args' ha hr).mono fun e W' ⟨u, ν', h2, h3, h4⟩ => ⟨u, ν', h2, h3, h4.wrs fun j hj _ => hw j hj⟩
theorem CodeSpec.le {a b : Out} (h : CodeSpec P m c fr hp a) (hl : Out.le a b) : CodeSpec P m c fr hp b := by
  obtain ⟨e, f, h1, w⟩ := a
  obtain ⟨e', f', h1', w'⟩ := b
  obtain ⟨rfl, rfl, rfl, hw⟩ := hl
  exact h.wrs fun j hj _ => hw j hj
theorem inside_of {i : Int} {n : Nat} (h : 0 ≤ i ∧ i < n) : inside i n = true := by
  unfold inside
  rw [decide_eq_true h.1, decide_eq_true h.2]; rfl
theorem upto_of {i : Int} {n : Nat} (h : 0 ≤ i ∧ i ≤ n) : upto i n = true := by
  unfold upto
  rw [decide_eq_true h.1, decide_eq_true h.2]; rfl
theorem all_nil : ∀ p, p ∈ ([] : List Prop) → p := fun _ h => by cases h
theorem all_cons {q : Prop} {l : List Prop} (h : q) (hl : ∀ p, p ∈ l → p) : ∀ p, p ∈ q :: l → p := fun p hp => by
  rcases List.mem_cons.1 hp with rfl | hp
  · exact h
  · exact hl p hp
end
end Go.Proofs.Ytfjlaplhglfcaaa.Ex
