/- What one operation does: those that change no memory. -/
import Derived.Test.YtfjlaplhglfcaaaExC
import Derived.Laws.Sem
import Derived.Laws.Cells
import Derived.Laws.Entries
namespace Go.Proofs.Ytfjlaplhglfcaaa.Ex
open Go
set_option linter.unusedVariables false
set_option linter.unusedSimpArgs false
/-- What an operation may do to the abstract heap. -/
structure Shape (F : List Nat) (hp : Hp) (r : Res) : Prop where
  len : hp.length ≤ r.hp.length
  wr : ∀ id, id ∈ r.wr → id ∈ F ∧ id < hp.length
  own : ∀ id, id ∈ r.wr → (hp.getD id .dead).isOwn = true
  keep : ∀ id, id < hp.length → ¬ id ∈ r.wr → r.hp.getD id .dead = hp.getD id .dead
structure Pre (P : Program) (F : List Nat) (ν : Nu) (hp : Hp) (w : World) : Prop where
  dom : ∀ id, hp.length ≤ id → ν id = none
  blk : ∀ id, id ∈ F → RepBlk P ν w id (hp.getD id .dead)
  sep : ∀ i j N K, i ≠ j → i ∈ F → j ∈ F → (hp.getD i .dead).isOwn = true → (hp.getD j .dead).live = true → ν i = some N → ν j = some K → N.g ≠ K.g
structure Post (P : Program) (F : List Nat) (ν : Nu) (hp : Hp) (w : World) (r : Res) (ν' : Nu) (w' : World) : Prop where
  same : ∀ id, id < hp.length → ν' id = ν id
  dom : ∀ id, r.hp.length ≤ id → ν' id = none
  blk : ∀ id, id ∈ F ∨ hp.length ≤ id → RepBlk P ν' w' id (r.hp.getD id .dead)
  sep : ∀ i j N K, i ≠ j → (i ∈ F ∨ hp.length ≤ i) → (j ∈ F ∨ hp.length ≤ j) → (r.hp.getD i .dead).isOwn = true → (r.hp.getD j .dead).live = true → ν' i = some N → ν' j = some K → N.g ≠ K.g
  os : w'.os = w.os
  tape : w'.tape = w.tape
  output : w'.output = w.output
  size : w.heap.size ≤ w'.heap.size
  frame : ∀ g, g < w.heap.size → (∀ id N, id ∈ r.wr → ν id = some N → N.g ≠ g) → w'.heap[g]? = w.heap[g]?
  fresh : ∀ id N, hp.length ≤ id → (r.hp.getD id .dead).live = true → ν' id = some N → w.heap.size ≤ N.g ∨ ∃ j K, j ∈ r.wr ∧ ν j = some K ∧ K.g = N.g
/-- The operands stand for the real ones. -/
def Env (ν : Nu) (fr : Fr) (a : Act) (o : Oper) : Prop := ∀ x, x ∈ o.op.operands → ∀ v, val fr x = some v → VR ν v (a.eval x)
def OpOk (P : Program) (F : List Nat) (fr : Fr) (hp : Hp) (o : Oper) (r : Res) : Prop :=
  Shape F hp r ∧ ∀ ν (a : Act) w, Env ν fr a o → Pre P F ν hp w → ∀ (next : Act → World → Prop) (Q : Exit → Act → World → Prop),
    (∀ ν' v' w', Post P F ν hp w r ν' w' → VR ν' r.v v' → next (a.put o.dst v') w') → o.wp P a w next Q
section
variable {P : Program} {F : List Nat} {fr : Fr} {hp : Hp} {o : Oper}
theorem getD_out {id : Nat} (h : hp.length ≤ id) : hp.getD id .dead = .dead := by
  rw [List.getD_eq_getElem?_getD, List.getElem?_eq_none h]
  rfl
theorem Shape.same (v : Value) : Shape F hp ⟨v, hp, []⟩ := ⟨Nat.le_refl _, fun _ h => by simp at h, fun _ h => by simp at h, fun _ _ _ => rfl⟩
theorem Post.refl_ {ν : Nu} {w : World} (h : Pre P F ν hp w) (v : Value) : Post P F ν hp w ⟨v, hp, []⟩ ν w where
  same := fun _ _ => rfl
  dom := h.dom
  blk := fun id hid => by
    rcases hid with h1 | h1
    · exact h.blk id h1
    · show RepBlk P ν w id (hp.getD id .dead)
      rw [getD_out h1]
      trivial
  sep := fun i j N K hne hi hj ho hl h1 h2 => by
    rcases hi with hi | hi
    · rcases hj with hj | hj
      · exact h.sep i j N K hne hi hj ho hl h1 h2
      · change (hp.getD j .dead).live = true at hl
        rw [getD_out hj] at hl
        cases hl
    · change (hp.getD i .dead).isOwn = true at ho
      rw [getD_out hi] at ho
      cases ho
  os := rfl
  tape := rfl
  output := rfl
  size := Nat.le_refl _
  frame := fun _ _ _ => rfl
  fresh := fun id N hid hl _ => by
    change (hp.getD id .dead).live = true at hl
    rw [getD_out hid] at hl
    cases hl
theorem wp_value {a : Act} {w w' : World} {v' : Value} {next : Act → World → Prop} {Q : Exit → Act → World → Prop} (h : (execOp a.eval o).run P w = .ok (.value v') w') (hn : next (a.put o.dst v') w') : o.wp P a w next Q := by
  unfold Oper.wp
  rw [h]
  exact hn
theorem wp_skip_ {a : Act} {w w' : World} {next : Act → World → Prop} {Q : Exit → Act → World → Prop} (h : (execOp a.eval o).run P w = .ok .skip w') (hn : next (a.put o.dst undef) w') : o.wp P a w next Q := by
  unfold Oper.wp
  rw [h]
  exact hn
/-- An operation that changes no memory. -/
theorem OpOk.pure {v : Value} (h : ∀ ν (a : Act) w, Env ν fr a o → Pre P F ν hp w → ∃ v', (execOp a.eval o).run P w = .ok (.value v') w ∧ VR ν v v') : OpOk P F fr hp o ⟨v, hp, []⟩ := by
  refine ⟨Shape.same v, fun ν a w he hp' next Q hn => ?_⟩
  obtain ⟨v', h1, h2⟩ := h ν a w he hp'
  exact wp_value h1 (hn ν v' w (Post.refl_ hp' v) h2)
theorem run_sz {t : TypeId} {n : Nat} (h : sz P t = some n) (w : World) : (sizeOf t).run P w = .ok n w := by
  unfold sz at h
  cases hi : P.info? t with
  | none => rw [hi] at h; cases h
  | some i => rw [hi] at h; cases h; simp [sizeOf, typeInfo, hi]
theorem run_zeroT {t : TypeId} {z : Value} (h : zeroT P t = some z) (w : World) : (zeroValue t).run P w = .ok z w := by
  unfold zeroT at h
  cases hi : P.info? t with
  | none => rw [hi] at h; cases h
  | some i =>
    rw [hi] at h
    change i.zero = some z at h
    simp [zeroValue, typeInfo, hi, h]
theorem run_und {t : TypeId} {d : TypeDesc} (h : P.underlying t = some d) (w : World) : (underlying t).run P w = .ok d w := by simp [underlying, h]
theorem run_aggT {t : TypeId} {g : Bool} (h : aggT P t = some g) (w : World) : (isAgg t).run P w = .ok g w := by
  unfold aggT at h
  cases hu : P.underlying t with
  | none => rw [hu] at h; cases h
  | some d =>
    rw [hu] at h
    cases h
    simp only [isAgg, Sem.run_bind, run_und hu, Result.andThen_ok]
    cases d <;> rfl
theorem VR.int {ν : Nu} {k : IntKind} {n : Int} {v' : Value} (h : VR ν (.int k n) v') : v' = .int k n := h
theorem VR.bool {ν : Nu} {b : Bool} {v' : Value} (h : VR ν (.bool b) v') : v' = .bool b := h
theorem VR.str {ν : Nu} {s : ByteArray} {v' : Value} (h : VR ν (.string s) v') : v' = .string s := h
theorem VR.ptr {ν : Nu} {b o : Nat} {v' : Value} (h : VR ν (.pointer (some ⟨b, o, none⟩)) v') : ∃ N, ν b = some N ∧ v' = .pointer (some (N.at o)) := by
  obtain ⟨N, h1, _, h2⟩ := h
  exact ⟨N, h1, h2⟩
theorem VR.of1 {ν : Nu} {v v' : Value} (h : VR1 ν v v') : VR ν v v' := by
  cases v with
  | agg cs => simp [VR1, VR0] at h
  | tuple cs => simp [VR1, VR0] at h
  | _ => simp only [VR, VRC]; exact h
theorem VR.ofC {ν : Nu} {v v' : Value} (h : VRC ν v v') : VR ν v v' := by
  cases v with
  | tuple cs => simp [VRC, VR1, VR0] at h
  | _ => simp only [VR]; exact h
theorem at_add (N : Nm) (i j : Nat) : (N.at i).add j = N.at (i + j) := by
  unfold Addr.add Nm.at
  split
  · rename_i h
    subst h
    rfl
  · simp only [Addr.mk.injEq, and_true, true_and]
    omega
theorem Sat.asT {t : TypeId} {v : Value} : Sat (asT P t v) fun u => u = v := by
  unfold Ex.asT
  split
  · refine Sat.bind_chk fun h => Sat.ret _ ?_
    unfold isInt at h
    split at h
    · simp only [beq_iff_eq] at h
      subst h
      rfl
    · cases h
  · refine Sat.bind_chk fun h => Sat.ret _ ?_
    unfold isBool at h
    split at h
    · rfl
    · cases h
  · refine Sat.bind_chk fun h => Sat.ret _ ?_
    unfold isStr at h
    split at h
    · rfl
    · cases h
  · exact Sat.ret _ rfl
theorem L2.slice {α β : Type} {R : α → β → Prop} {l : List α} {m : List β} (h : L2 R l m) (o n : Nat) : L2 R ((l.drop o).take n) ((m.drop o).take n) := (h.drop o).take n
/-- A read. -/
theorem load_ok {t : TypeId} {b o : Nat} {cs : List Value} {ν : Nu} {w : World} {g : Bool} (hb : RepBlk P ν w b (hp.getD b .dead)) (hc : cellsAt hp b = some cs) (hg : aggT P t = some g) :
    ∃ N, ν b = some N ∧
    (g = true → ∀ n, sz P t = some n → o + n ≤ cs.length → ∃ v', (loadVar t (N.at o)).run P w = .ok v' w ∧ VR ν (.agg ((cs.drop o).take n).toArray) v') ∧
    (g = false → o < cs.length → ∃ v', (loadVar t (N.at o)).run P w = .ok v' w ∧ VR ν (cs.getD o undef) v') := by
  obtain ⟨N, cs', h1, h3, h4⟩ := hb.read hc
  refine ⟨N, h1, fun e n hn hle => ?_, fun e hlt => ?_⟩
  · subst e
    have hl : ((cs'.drop o).take n).length = n := by
      rw [List.length_take, List.length_drop, ← h3.len]
      omega
    have hrow : ∀ j v, ((cs'.drop o).take n)[j]? = some v → w.cell? ((N.at o).add j) = some v := by
      intro j v hj
      rw [at_add]
      refine h4 (o + j) v ?_
      rw [List.getElem?_take] at hj
      split at hj
      · rwa [List.getElem?_drop] at hj
      · cases hj
    have hr := run_loadCells_list (P := P) (w := w) (N.at o) _ hrow
    rw [hl] at hr
    refine ⟨.agg ((cs'.drop o).take n).toArray, ?_, ?_⟩
    · simp only [loadVar, Sem.run_bind, run_aggT hg, Result.andThen_ok, if_true, run_sz hn, hr, Sem.run_pure]
    · exact ⟨_, rfl, by simpa using h3.slice o n⟩
  · subst e
    have hx : cs[o]? = some (cs.getD o undef) := by rw [List.getD_eq_getElem?_getD, List.getElem?_eq_getElem hlt]; rfl
    obtain ⟨v', hv', hr⟩ := h3.get o _ hx
    have hcell := h4 o v' hv'
    refine ⟨v', ?_, VR.of1 hr⟩
    simp only [loadVar, Sem.run_bind, run_aggT hg, Result.andThen_ok, Bool.false_eq_true, if_false, run_load, hcell]
theorem load_sat {x : Operand} {t : TypeId} {v : Value} (ho : o.op = .load t x) (hv : val fr x = some v) (hF : ∀ id, id ∈ idsV v → id ∈ F) : Sat ((loadA P hp t v).map fun v => (⟨v, hp, []⟩ : Res)) (OpOk P F fr hp o) := by
  apply Sat.map
  unfold loadA
  split
  · rename_i b off
    have hbF : b ∈ F := hF b (by simp [idsV, idsVC, idsV1])
    refine Sat.bind_lift fun cs hc => Sat.bind_lift fun g hg => ?_
    have key : ∀ u, (∀ ν (w : World), Pre P F ν hp w → ∀ N, ν b = some N → ∃ v', (loadVar t (N.at off)).run P w = .ok v' w ∧ VR ν u v') → OpOk P F fr hp o ⟨u, hp, []⟩ := by
      intro u hu
      refine OpOk.pure fun ν a w he hpre => ?_
      obtain ⟨N, h1, h2⟩ := VR.ptr (he x (by rw [ho]; simp [Op.operands]) _ hv)
      obtain ⟨v', h3, h4⟩ := hu ν w hpre N h1
      refine ⟨v', ?_, h4⟩
      simp only [execOp, ho, h2, Instr.loadAt, Instr.sureAddr, Sem.run_bind, Sem.run_pure, Result.andThen_ok, h3]
    cases g with
    | true =>
      rw [if_pos rfl]
      refine Sat.bind_lift fun n hn => Sat.bind_chk fun hle => Sat.ret _ (key _ fun ν w hpre N h1 => ?_)
      obtain ⟨N', h1', h2, _⟩ := load_ok (o := off) (hpre.blk b hbF) hc hg
      rw [h1] at h1'
      cases h1'
      exact h2 rfl n hn (by simpa using hle)
    | false =>
      rw [if_neg Bool.false_ne_true]
      refine Sat.bind_chk fun hlt => Sat.asT.mono fun u hu => key _ fun ν w hpre N h1 => ?_
      subst hu
      obtain ⟨N', h1', _, h2⟩ := load_ok (o := off) (hpre.blk b hbF) hc hg
      rw [h1] at h1'
      cases h1'
      exact h2 rfl (by simpa using hlt)
  · exact Sat.stop
end
end Go.Proofs.Ytfjlaplhglfcaaa.Ex
