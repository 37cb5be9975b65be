/- What one operation does: structs put together, conversions, tests of two values. -/
import Derived.Test.YtfjlaplhglfcaaaExF2
import Derived.Laws.BytesString
namespace Go.Proofs.Ytfjlaplhglfcaaa.Ex
open Go
set_option linter.unusedVariables false
set_option linter.unusedSimpArgs false
section
variable {P : Program} {F : List Nat} {fr : Fr} {hp : Hp} {o : Oper}
theorem bind_pure_map {α β : Type} (x : Sem α) (f : α → β) : (do pure (f (← x)) : Sem β) = f <$> x := rfl
theorem mapM_places {fs : Array Field} (h : ∀ f, f ∈ fs.toList → (sz P f.type).isSome = true) (w : World) :
    (fs.mapM (fun (f : Field) => do pure (f.offset, ← sizeOf f.type)) : Sem (Array (Nat × Nat))).run P w = .ok (fs.map fun f => (f.offset, (sz P f.type).getD 0)) w := by
  have key : ∀ (l : List Field), (∀ f, f ∈ l → (sz P f.type).isSome = true) → (l.mapM (fun (f : Field) => do pure (f.offset, ← sizeOf f.type)) : Sem (List (Nat × Nat))).run P w = .ok (l.map fun f => (f.offset, (sz P f.type).getD 0)) w := by
    intro l
    induction l with
    | nil => intro _; rfl
    | cons f l ih =>
      intro h
      obtain ⟨n, hn⟩ := Option.isSome_iff_exists.1 (h f (List.mem_cons_self ..))
      have i := ih fun g hg => h g (List.mem_cons_of_mem _ hg)
      simp only [List.mapM_cons, Sem.run_bind, run_sz hn, Result.andThen_ok, Sem.run_pure, i, hn, List.map_cons, Option.getD_some]
  have k := key fs.toList h
  rw [Array.mapM_eq_mapM_toList]
  simp only [Sem.run_map, k, Result.andThen_ok]
  congr 1
  apply Array.toList_inj.1
  simp
theorem build_sat {t : TypeId} {ps : Array (Nat × Operand)} (ho : o.op = .build t ps) : Sat ((lift (parts fr ps.toList)).bind fun ps => (chk (ps.all fun p => lvlC p.2)).bind fun _ => (buildA P t ps).map fun v => (⟨v, hp, []⟩ : Res)) (OpOk P F fr hp o) := by
  refine Sat.bind_lift fun vs hvs => Sat.bind_chk fun hlv => Sat.map ?_
  have eP : ∀ ν (a : Act), Env ν fr a o → L2 (fun p q => p.1 = q.1 ∧ VRC ν p.2 q.2) vs (ps.toList.map fun p => (p.1, a.eval p.2)) := fun ν a he =>
    parts_ok hvs (fun x hx v hv => he x (by simp only [ho, Op.operands]; simpa using hx) v hv) hlv
  unfold buildA
  refine Sat.bind_lift fun z hz => Sat.bind_chk fun hfl => ?_
  split
  · rename_i fs hd
    refine Sat.bind_chk fun hsz => Sat.map ?_
    intro o' r he' hg
    refine OpOk.pure fun ν a w he _ => ?_
    obtain ⟨r', h1, h2⟩ := fill_ok (ν := ν) (eP ν a he) ((flat_L2 hfl).2 rfl) o' r he' hg
    refine ⟨.agg r', ?_, ⟨_, rfl, by simpa using h2⟩⟩
    have e1 : (ps.map fun x => (x.1, a.eval x.2)).toList = ps.toList.map fun p => (p.1, a.eval p.2) := by simp
    have e3 : (fun i : Nat => (fs[i]?).map fun f => (f.offset, (sz P f.type).getD 0)) = fun i : Nat => (fs.map fun f => (f.offset, (sz P f.type).getD 0))[i]? := by
      funext i
      simp
    rw [e3] at h1
    have hm := mapM_places (P := P) (fs := fs) (fun f hf => List.all_eq_true.1 hsz f hf) w
    simp only [execOp, ho, Instr.build, Sem.run_bind, run_zeroT hz, Result.andThen_ok, run_und hd, hm, Sem.run_pure, e1]
    have e2 : Instr.fill (fun i : Nat => (fs.map fun f => (f.offset, (sz P f.type).getD 0))[i]?) z.cells (ps.toList.map fun p => (p.1, a.eval p.2)) = some r' := by simpa using h1
    simp only [e2, Sem.run_pure, Result.andThen_ok]
  · rename_i len e hd
    refine Sat.bind_lift fun n hn => Sat.map ?_
    intro o' r he' hg
    refine OpOk.pure fun ν a w he _ => ?_
    obtain ⟨r', h1, h2⟩ := fill_ok (ν := ν) (eP ν a he) ((flat_L2 hfl).2 rfl) o' r he' hg
    refine ⟨.agg r', ?_, ⟨_, rfl, by simpa using h2⟩⟩
    have e1 : (ps.map fun x => (x.1, a.eval x.2)).toList = ps.toList.map fun p => (p.1, a.eval p.2) := by simp
    simp only [execOp, ho, Instr.build, Sem.run_bind, run_zeroT hz, Result.andThen_ok, run_und hd, run_sz hn, Sem.run_pure, e1]
    have e2 : Instr.fill (fun i => some (i * n, n)) z.cells (ps.toList.map fun p => (p.1, a.eval p.2)) = some r' := by simpa using h1
    simp [e2]
  · exact Sat.stop
theorem nil_eq {t : TypeId} {v w v' : Value} {b : Bool} {ν : Nu} (hv : isNilV P t v = some b) (hw : isNilV P t w = some true) (h : VR ν v v') {w' : Value} (h2 : VR ν w w') (W : World) :
    (binOp .eql t v' w').run P W = .ok (.bool b) W ∧ (binOp .neq t v' w').run P W = .ok (.bool (!b)) W ∧ ∀ op x y, (eqGuard op t x y v' w').run P W = .ok () W := by
  have eqn : ∀ {b}, (Op.equal t v' w').run P W = .ok b W → (binOp .eql t v' w' = do pure (.bool (← Op.equal t v' w'))) → (binOp .neq t v' w' = do pure (.bool (!(← Op.equal t v' w')))) → (∀ op x y, (eqGuard op t x y v' w').run P W = .ok () W) →
      (binOp .eql t v' w').run P W = .ok (.bool b) W ∧ (binOp .neq t v' w').run P W = .ok (.bool (!b)) W ∧ ∀ op x y, (eqGuard op t x y v' w').run P W = .ok () W := by
    intro b h1 h2 h3 h4
    rw [h2, h3]
    simp only [Sem.run_bind, h1, Result.andThen_ok, Sem.run_pure]
    exact ⟨trivial, trivial, h4⟩
  have grd : ∀ (p q : Value), (∀ cs, p ≠ .agg cs) → p ≠ .nilIface → ∀ op x y, (eqGuard op t x y p q).run P W = .ok () W := by
    intro p q h1 h2 op x y
    cases p with
    | agg cs => exact absurd rfl (h1 cs)
    | nilIface => exact absurd rfl h2
    | _ => cases op <;> first | rfl | (simp [eqGuard]; done)
  obtain ⟨n, hn⟩ : ∃ n, Op.maxDepth = n + 1 := ⟨9999, rfl⟩
  unfold isNilV at hv hw
  split at hv
  all_goals first | cases hv | skip
  all_goals (rename_i hd; split at hw; all_goals first | cases hw | skip)
  all_goals first | (rename_i hd2; rw [hd] at hd2; first | (cases hd2; done) | cases hd2) | skip
  · cases h; cases h2
    exact eqn (by unfold Op.equal; rw [hn, Op.equalIn]; simp only [Sem.run_bind, run_und hd, Result.andThen_ok]; rfl) rfl rfl (grd _ _ (fun _ h => by cases h) (fun h => by cases h))
  · obtain ⟨N, _, _, rfl⟩ := h; cases h2
    exact eqn (by unfold Op.equal; rw [hn, Op.equalIn]; simp only [Sem.run_bind, run_und hd, Result.andThen_ok]; rfl) rfl rfl (grd _ _ (fun _ h => by cases h) (fun h => by cases h))
  · cases h; cases h2
    exact eqn (by unfold Op.equal; rw [hn, Op.equalIn]; simp only [Sem.run_bind, run_und hd, Result.andThen_ok]; rfl) rfl rfl (grd _ _ (fun _ h => by cases h) (fun h => by cases h))
  · obtain ⟨a', c', rfl, _⟩ := h; cases h2
    exact eqn (by unfold Op.equal; rw [hn, Op.equalIn]; simp only [Sem.run_bind, run_und hd, Result.andThen_ok]; rfl) rfl rfl (grd _ _ (fun _ h => by cases h) (fun h => by cases h))
  · cases h; cases h2
    exact eqn (by unfold Op.equal; rw [hn, Op.equalIn]; simp only [Sem.run_bind, run_und hd, Result.andThen_ok]; rfl) rfl rfl (grd _ _ (fun _ h => by cases h) (fun h => by cases h))
  · obtain ⟨f', c', rfl, _⟩ := h; cases h2
    exact eqn (by unfold Op.equal; rw [hn, Op.equalIn]; simp only [Sem.run_bind, run_und hd, Result.andThen_ok]; rfl) rfl rfl (grd _ _ (fun _ h => by cases h) (fun h => by cases h))
theorem guard_ne {op : BinOp} (h : op ≠ .eql ∧ op ≠ .neq) {t : TypeId} {x y : Operand} {p q : Value} (W : World) : (eqGuard op t x y p q).run P W = .ok () W := by
  cases op with
  | eql => exact absurd rfl h.1
  | neq => exact absurd rfl h.2
  | _ => simp [eqGuard]
theorem bin_sat {op : BinOp} {t : TypeId} {x y : Operand} {yt : TypeId} (ho : o.op = .binOp op t x y yt) :
    Sat ((lift (val fr x)).bind fun v => (lift (val fr y)).bind fun w => (binA P fr o op t v w).map fun v => (⟨v, hp, []⟩ : Res)) (OpOk P F fr hp o) := by
  refine Sat.bind_lift fun v hv => Sat.bind_lift fun w hw => Sat.map ?_
  have ex : ∀ ν (a : Act), Env ν fr a o → VR ν v (a.eval x) ∧ VR ν w (a.eval y) := fun ν a he => ⟨he x (by simp [ho, Op.operands]) _ hv, he y (by simp [ho, Op.operands]) _ hw⟩
  have plain : Sat (lift (plainA P fr o)) fun v => OpOk P F fr hp o ⟨v, hp, []⟩ := Sat.lift fun v hv => OpOk.pure fun ν a w he _ => ⟨v, plain_ok hv he w⟩
  have run2 : ∀ (a : Act) (W : World) (r : Value), (eqGuard op t x y (a.eval x) (a.eval y)).run P W = .ok () W → (binOp op t (a.eval x) (a.eval y)).run P W = .ok r W → (execOp a.eval o).run P W = .ok (.value r) W := by
    intro a W r h1 h2
    simp only [execOp, ho, Sem.run_bind, h1, h2, Result.andThen_ok, Sem.run_pure]
  unfold binA
  split
  · refine Sat.bind_chk fun hc => Sat.ret _ (OpOk.pure fun ν a W he _ => ⟨_, run2 a W _ (guard_ne ⟨by decide, by decide⟩ W) ?_, rfl⟩)
    obtain ⟨e1, e2⟩ := ex ν a he
    rw [VR.int e1, VR.int e2]
    have h0 : ¬ _ < (0 : Int) := Int.not_lt.2 (of_decide_eq_true hc)
    simp only [binOp, Op.shift, if_neg h0, Sem.run_pure]
  · refine Sat.bind_chk fun hc => Sat.ret _ (OpOk.pure fun ν a W he _ => ⟨_, run2 a W _ (guard_ne ⟨by decide, by decide⟩ W) ?_, rfl⟩)
    obtain ⟨e1, e2⟩ := ex ν a he
    rw [VR.int e1, VR.int e2]
    have h0 : ¬ _ < (0 : Int) := Int.not_lt.2 (of_decide_eq_true hc)
    simp only [binOp, Op.shift, if_neg h0, Sem.run_pure]
  · refine Sat.bind_chk fun hc => Sat.ret _ (OpOk.pure fun ν a W he _ => ⟨_, run2 a W _ (guard_ne ⟨by decide, by decide⟩ W) ?_, rfl⟩)
    obtain ⟨e1, e2⟩ := ex ν a he
    simp only [Bool.and_eq_true, beq_iff_eq, decide_eq_true_eq] at hc
    obtain ⟨rfl, h0⟩ := hc
    rw [VR.int e1, VR.int e2]
    simp [binOp, Op.intDiv, h0]
  · refine Sat.bind_chk fun hc => Sat.ret _ (OpOk.pure fun ν a W he _ => ⟨_, run2 a W _ (guard_ne ⟨by decide, by decide⟩ W) ?_, rfl⟩)
    obtain ⟨e1, e2⟩ := ex ν a he
    simp only [Bool.and_eq_true, beq_iff_eq, decide_eq_true_eq] at hc
    obtain ⟨rfl, h0⟩ := hc
    rw [VR.int e1, VR.int e2]
    simp [binOp, Op.intDiv, h0]
  · refine Sat.bind_chk fun hc => Sat.ret _ (OpOk.pure fun ν a W he _ => ⟨_, run2 a W _ (guard_ne ⟨by decide, by decide⟩ W) ?_, rfl⟩)
    obtain ⟨e1, e2⟩ := ex ν a he
    rw [VR.str e1, VR.str e2]
    have hm : IntKind.i64.max = 9223372036854775807 := by decide
    have h0 := of_decide_eq_true hc
    simp only [binOp, Op.stringOp, hm]
    rw [if_neg (by omega)]
    rfl
  · rename_i xs ys
    refine Sat.map ?_
    unfold eqAgg
    refine Sat.bind_chk fun hc => Sat.lift fun b hb => OpOk.pure fun ν a W he _ => ?_
    simp only [Bool.and_eq_true, Bool.not_eq_true'] at hc
    obtain ⟨e1, e2⟩ := ex ν a he
    have q1 := (flat_VR (v := .agg xs) hc.1.1 _).1 e1
    have q2 := (flat_VR (v := .agg ys) hc.1.2 _).1 e2
    have k := agg_eq hc.2 hb W
    rw [← q1, ← q2] at k
    exact ⟨.bool b, run2 a W _ (k.2.2 _ _ _) k.1, rfl⟩
  · rename_i xs ys
    refine Sat.map ?_
    unfold eqAgg
    refine Sat.bind_chk fun hc => Sat.lift fun b hb => OpOk.pure fun ν a W he _ => ?_
    simp only [Bool.and_eq_true, Bool.not_eq_true'] at hc
    obtain ⟨e1, e2⟩ := ex ν a he
    have q1 := (flat_VR (v := .agg xs) hc.1.1 _).1 e1
    have q2 := (flat_VR (v := .agg ys) hc.1.2 _).1 e2
    have k := agg_eq hc.2 hb W
    rw [← q1, ← q2] at k
    exact ⟨.bool !b, run2 a W _ (k.2.2 _ _ _) k.2.1, rfl⟩
  · split
    · rename_i r hr
      exact Sat.ret _ (OpOk.pure fun ν a w he _ => ⟨r, plain_ok hr he w⟩)
    · split
      · rename_i hn
        refine Sat.bind_lift fun b hb => Sat.ret _ (OpOk.pure fun ν a W he _ => ?_)
        obtain ⟨e1, e2⟩ := ex ν a he
        have k := nil_eq (P := P) hb hn e1 e2 W
        exact ⟨.bool b, run2 a W _ (k.2.2 _ _ _) k.1, rfl⟩
      · exact Sat.stop
  · split
    · rename_i r hr
      exact Sat.ret _ (OpOk.pure fun ν a w he _ => ⟨r, plain_ok hr he w⟩)
    · split
      · rename_i hn
        refine Sat.bind_lift fun b hb => Sat.ret _ (OpOk.pure fun ν a W he _ => ?_)
        obtain ⟨e1, e2⟩ := ex ν a he
        have k := nil_eq (P := P) hb hn e1 e2 W
        exact ⟨.bool !b, run2 a W _ (k.2.2 _ _ _) k.2.1, rfl⟩
      · exact Sat.stop
  · exact plain
theorem vals_one {xs : Array Operand} {v : Value} (h : vals fr xs.toList = some [v]) : ∃ x, xs = #[x] ∧ val fr x = some v := by
  obtain ⟨xs⟩ := xs
  match xs, h with
  | [], h => cases h
  | [x], h =>
    simp only [vals] at h
    cases hx : val fr x with
    | none => rw [hx] at h; cases h
    | some u => rw [hx] at h; cases h; exact ⟨x, rfl, hx⟩
  | x :: y :: r, h =>
    simp only [vals] at h
    cases hx : val fr x with
    | none => rw [hx] at h; cases h
    | some u =>
      rw [hx] at h
      cases hy : val fr y with
      | none => rw [hy] at h; cases h
      | some u2 =>
        rw [hy] at h
        cases hr : vals fr r with
        | none => rw [hr] at h; cases h
        | some us => rw [hr] at h; cases h
theorem vals_two {xs : Array Operand} {v w : Value} (h : vals fr xs.toList = some [v, w]) : ∃ x y, xs = #[x, y] ∧ val fr x = some v ∧ val fr y = some w := by
  obtain ⟨xs⟩ := xs
  match xs, h with
  | [], h => cases h
  | [x], h =>
    simp only [vals] at h
    cases hx : val fr x with
    | none => rw [hx] at h; cases h
    | some u => rw [hx] at h; cases h
  | [x, y], h =>
    simp only [vals] at h
    cases hx : val fr x with
    | none => rw [hx] at h; cases h
    | some u =>
      rw [hx] at h
      cases hy : val fr y with
      | none => rw [hy] at h; cases h
      | some u2 => rw [hy] at h; cases h; exact ⟨x, y, rfl, hx, hy⟩
  | x :: y :: z :: r, h =>
    simp only [vals] at h
    cases hx : val fr x with
    | none => rw [hx] at h; cases h
    | some u =>
      rw [hx] at h
      cases hy : val fr y with
      | none => rw [hy] at h; cases h
      | some u2 =>
        rw [hy] at h
        cases hz : val fr z with
        | none => rw [hz] at h; cases h
        | some u3 =>
          rw [hz] at h
          cases hr : vals fr r with
          | none => rw [hr] at h; cases h
          | some us => rw [hr] at h; cases h
theorem len_sat {xs : Array Operand} {ts : Array TypeId} (ho : o.op = .call { callee := .builtin .len, args := xs, argTypes := ts }) :
    Sat ((lift (vals fr xs.toList)).bind fun vs => match vs, (ts[0]?).bind P.underlying with
      | [.slice _ n _], some (.slice _) => ret (⟨.int .i64 n, hp, []⟩ : Res)
      | [.string s], some .string => ret (⟨.int .i64 s.size, hp, []⟩ : Res)
      | [_], some (.array n _) => ret (⟨.int .i64 n, hp, []⟩ : Res)
      | _, _ => stop) (OpOk P F fr hp o) := by
  refine Sat.bind_lift fun vs hvs => ?_
  have tt : ∀ {d}, (ts[0]?).bind P.underlying = some d → ∃ t, ts[0]? = some t ∧ P.underlying t = some d := fun h => by
    cases ht : ts[0]? with
    | none => rw [ht] at h; cases h
    | some t => rw [ht] at h; exact ⟨t, rfl, h⟩
  split
  · rename_i a0 n c e hd
    obtain ⟨t, ht, hd⟩ := tt hd
    refine Sat.ret _ (OpOk.pure fun ν a W he _ => ⟨.int .i64 n, ?_, rfl⟩)
    obtain ⟨x, rfl, hx⟩ := vals_one hvs
    have h1 := he x (by simp [ho, Op.operands, Call.operands]) _ hx
    have h2 : ∃ a' c', a.eval x = .slice a' n c' := by
      cases a0 with
      | some ad => obtain ⟨a', c', h, _⟩ := h1; exact ⟨_, _, h⟩
      | none => cases n <;> cases c <;> simp [VR, VRC, VR1, VR0] at h1; exact ⟨_, _, h1⟩
    obtain ⟨a', c', h2⟩ := h2
    simp [execOp, ho, resolve, invoke, builtin, Builtin.len_, ht, run_und hd, h2, goInt]
  · rename_i s hd
    obtain ⟨t, ht, hd⟩ := tt hd
    refine Sat.ret _ (OpOk.pure fun ν a W he _ => ⟨.int .i64 s.size, ?_, rfl⟩)
    obtain ⟨x, rfl, hx⟩ := vals_one hvs
    have h2 : a.eval x = .string s := he x (by simp [ho, Op.operands, Call.operands]) _ hx
    simp [execOp, ho, resolve, invoke, builtin, Builtin.len_, ht, run_und hd, h2, goInt]
  · rename_i _ _ v0 n e hd
    obtain ⟨t, ht, hd⟩ := tt hd
    refine Sat.ret _ (OpOk.pure fun ν a W he _ => ⟨.int .i64 n, ?_, rfl⟩)
    obtain ⟨x, rfl, hx⟩ := vals_one hvs
    simp [execOp, ho, resolve, invoke, builtin, Builtin.len_, ht, run_und hd, goInt]
  · exact Sat.stop
end
end Go.Proofs.Ytfjlaplhglfcaaa.Ex
