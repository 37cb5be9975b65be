/- What one operation does: the others that change no memory. -/
import Derived.Test.YtfjlaplhglfcaaaExD
namespace Go.Proofs.Ytfjlaplhglfcaaa.Ex
open Go
set_option linter.unusedVariables false
set_option linter.unusedSimpArgs false
section
variable {P : Program} {F : List Nat} {fr : Fr} {hp : Hp} {o : Oper}
theorem pureRun_run {α : Type} {s : Sem α} {a : α} : pureRun P s = some a → ∀ w, s.run P w = .ok a w := by
  induction s with
  | pure b => intro h w; cases h; rfl
  | program k ih => intro h w; exact ih P h w
  | mark m k ih => intro h w; exact ih h w
  | _ => intro h w; cases h
theorem val_eval {ν : Nu} {a : Act} {x : Operand} {v : Value} (h : FrRel ν fr a.tmps) (hv : val fr x = some v) : VR ν v (a.eval x) := by
  cases x with
  | tmp t =>
    obtain ⟨v', h1, h2⟩ := h.2 t v hv
    have : a.eval (.tmp t) = v' := by simp [Act.eval, h1]
    rw [this]
    exact h2
  | const c =>
    simp only [val] at hv
    split at hv
    · rename_i hf
      cases hv
      exact (flat_VR hf _).2 rfl
    · cases hv
  | func f => cases hv; exact ⟨#[], #[], rfl, .nil, .nil⟩
  | global g => cases hv
theorem vals_mem : ∀ {xs : List Operand} {vs : List Value}, vals fr xs = some vs → ∀ x, x ∈ xs → ∃ v, v ∈ vs ∧ val fr x = some v
  | [], _, _, x, hx => by simp at hx
  | y :: ys, vs, h, x, hx => by
    simp only [vals] at h
    cases hy : val fr y with
    | none => rw [hy] at h; cases h
    | some v =>
      rw [hy] at h
      change (vals fr ys).bind (fun vs => some (v :: vs)) = some vs at h
      cases hys : vals fr ys with
      | none => rw [hys] at h; cases h
      | some us =>
        rw [hys] at h
        cases h
        rcases List.mem_cons.1 hx with rfl | hx
        · exact ⟨v, List.mem_cons_self .., hy⟩
        · obtain ⟨u, h1, h2⟩ := vals_mem hys x hx
          exact ⟨u, List.mem_cons_of_mem _ h1, h2⟩
theorem vals_L2 {ν : Nu} {a : Act} : ∀ {xs : List Operand} {vs : List Value}, vals fr xs = some vs → (∀ x, x ∈ xs → ∀ v, val fr x = some v → VR ν v (a.eval x)) → L2 (VR ν) vs (xs.map a.eval)
  | [], vs, h, _ => by cases h; exact .nil
  | y :: ys, vs, h, he => by
    simp only [vals] at h
    cases hy : val fr y with
    | none => rw [hy] at h; cases h
    | some v =>
      rw [hy] at h
      change (vals fr ys).bind (fun vs => some (v :: vs)) = some vs at h
      cases hys : vals fr ys with
      | none => rw [hys] at h; cases h
      | some us =>
        rw [hys] at h
        cases h
        exact .cons (he y (List.mem_cons_self ..) v hy) (vals_L2 hys fun x hx => he x (List.mem_cons_of_mem _ hx))
theorem plain_ok {v : Value} (h : plainA P fr o = some v) {ν : Nu} {a : Act} (he : Env ν fr a o) (w : World) : (execOp a.eval o).run P w = .ok (.value v) w ∧ VR ν v v := by
  have main : (∀ cs b, o.op ≠ .select cs b) → ((vals fr o.op.operands.toList).bind fun vs => if vs.all flat = true then (pureRun P (execOp (envOf fr) o)).bind fun | .value v => if flat v = true then some v else none | _ => none else none) = some v →
      (execOp a.eval o).run P w = .ok (.value v) w ∧ VR ν v v := by
    intro hs h
    cases hvs : vals fr o.op.operands.toList with
    | none => rw [hvs] at h; cases h
    | some vs =>
      rw [hvs] at h
      simp only [Option.bind_some] at h
      split at h
      · rename_i hfl
        cases hp' : pureRun P (execOp (envOf fr) o) with
        | none => rw [hp'] at h; cases h
        | some n =>
          rw [hp'] at h
          simp only [Option.bind_some] at h
          have hcong : execOp a.eval o = execOp (envOf fr) o := execOp_congr o hs fun x hx => by
            obtain ⟨u, h1, h2⟩ := vals_mem hvs x (by simpa using hx)
            have hu : flat u = true := List.all_eq_true.1 hfl u h1
            rw [(flat_VR hu _).1 (he x hx u h2)]
            simp [envOf, h2]
          rw [hcong, pureRun_run hp']
          cases n with
          | value u =>
            simp only at h
            split at h
            · rename_i hf
              cases h
              exact ⟨rfl, (flat_VR hf _).2 rfl⟩
            · cases h
          | _ => cases h
      · cases h
  unfold plainA at h
  split at h
  · cases h
  · rename_i hs
    exact main (fun cs b e => hs _ _ e) h
theorem plain_sat : Sat ((lift (plainA P fr o)).map fun v => (⟨v, hp, []⟩ : Res)) (OpOk P F fr hp o) :=
  Sat.map (Sat.lift fun v hv => OpOk.pure fun ν a w he _ => ⟨v, plain_ok hv he w⟩)
theorem move_sat {x : Operand} (ho : o.op = .move x ∨ o.op = .assign x) : Sat ((lift (val fr x)).map fun v => (⟨v, hp, []⟩ : Res)) (OpOk P F fr hp o) :=
  Sat.map (Sat.lift fun v hv => OpOk.pure fun ν a w he _ => by
    rcases ho with ho | ho
    · exact ⟨a.eval x, by simp [execOp, ho], he x (by simp [ho, Op.operands]) v hv⟩
    · exact ⟨a.eval x, by simp [execOp, ho], he x (by simp [ho, Op.operands]) v hv⟩)
theorem pick_sat {c x y : Operand} (ho : o.op = .pick c x y) : Sat ((lift (val fr c)).bind fun c => match c with
      | .bool c => (ask c).bind fun c => if c = true then (lift (val fr x)).map fun v => (⟨v, hp, []⟩ : Res) else (lift (val fr y)).map fun v => (⟨v, hp, []⟩ : Res)
      | _ => stop) (OpOk P F fr hp o) := by
  refine Sat.bind_lift fun v hv => ?_
  split
  · rename_i b
    refine Sat.bind_ask ?_
    have hc : ∀ ν (a : Act), Env ν fr a o → a.eval c = .bool b := fun ν a he => he c (by simp [ho, Op.operands]) _ hv
    cases b with
    | true =>
      rw [if_pos rfl]
      exact Sat.map (Sat.lift fun v hv => OpOk.pure fun ν a w he _ => ⟨a.eval x, by simp [execOp, ho, hc ν a he, asBool], he x (by simp [ho, Op.operands]) v hv⟩)
    | false =>
      rw [if_neg Bool.false_ne_true]
      exact Sat.map (Sat.lift fun v hv => OpOk.pure fun ν a w he _ => ⟨a.eval y, by simp [execOp, ho, hc ν a he, asBool], he y (by simp [ho, Op.operands]) v hv⟩)
  · exact Sat.stop
theorem nil_sat {x : Operand} (ho : o.op = .nilCheck x) : Sat ((lift (val fr x)).bind fun v => match v with | .pointer (some a) => ret (⟨.pointer (some a), hp, []⟩ : Res) | _ => stop) (OpOk P F fr hp o) := by
  refine Sat.bind_lift fun v hv => ?_
  split
  · rename_i ad
    refine Sat.ret _ (OpOk.pure fun ν a w he _ => ?_)
    have h := he x (by simp [ho, Op.operands]) _ hv
    refine ⟨a.eval x, ?_, h⟩
    obtain ⟨N, _, _, h3⟩ := h
    simp [execOp, ho, h3]
  · exact Sat.stop
theorem field_sat {s : TypeId} {x : Operand} {f : Nat} (ho : o.op = .fieldAddr s x f) : Sat ((lift (val fr x)).bind fun v => (lift (fieldA P s v f)).map fun v => (⟨v, hp, []⟩ : Res)) (OpOk P F fr hp o) := by
  refine Sat.bind_lift fun v hv => Sat.map (Sat.lift fun u hu => OpOk.pure fun ν a w he _ => ?_)
  unfold fieldA at hu
  split at hu
  · rename_i b off fs hs
    obtain ⟨N, h1, h2⟩ := VR.ptr (he x (by simp [ho, Op.operands]) _ hv)
    cases hg : fs[f]? with
    | none => rw [hg] at hu; cases hu
    | some g =>
      rw [hg] at hu
      simp only [Option.bind_some] at hu
      cases hn : sz P g.type with
      | none => rw [hn] at hu; cases hu
      | some n =>
        rw [hn] at hu
        simp only [Option.bind_some] at hu
        split at hu
        · cases hu
        · rename_i h0
          cases hu
          refine ⟨.pointer (some (N.at (off + g.offset))), ?_, ⟨N, h1, rfl, rfl⟩⟩
          simp [execOp, ho, h2, Instr.fieldAt, run_und hs, hg, Instr.sureAddr, fieldPlace, run_sz hn, h0, at_add]
  · cases hu
theorem index_run {t : TypeId} {d : TypeDesc} (hd : P.underlying t = some d) {x : Value} {k : IntKind} {i : Int} {base : Addr} {len : Nat} {e : TypeId} {n : Nat} (hn : sz P e = some n) (h0 : 0 ≤ i) (h1 : i < (len : Int))
    (hx : (∃ N : Nat, d = .array N e ∧ x = .pointer (some base) ∧ len = N) ∨ (∃ c, d = .slice e ∧ x = .slice (some base) len c)) (w : World) :
    (Instr.indexAt t x (.int k i)).run P w = .ok (.pointer (some (base.add (i.toNat * n)))) w := by
  rcases hx with ⟨N, rfl, rfl, rfl⟩ | ⟨c, rfl, rfl⟩
  · simp [Instr.indexAt, asIntOf, run_und hd, Instr.sureAddr, h0, h1, run_sz hn]
  · simp [Instr.indexAt, asIntOf, run_und hd, h0, h1, run_sz hn]
theorem index_sat {t : TypeId} {x i : Operand} (ho : o.op = .indexAddr t x i) : Sat ((lift (val fr x)).bind fun v => (lift (val fr i)).bind fun i => (indexA P t v i).map fun v => (⟨v, hp, []⟩ : Res)) (OpOk P F fr hp o) := by
  refine Sat.bind_lift fun v hv => Sat.bind_lift fun iv hi => Sat.map ?_
  unfold indexA
  split
  · rename_i len e b off k i0 hd
    refine Sat.bind_lift fun n hn => Sat.bind_chk fun hin => Sat.ret _ (OpOk.pure fun ν a w he _ => ?_)
    obtain ⟨N, h1, h2⟩ := VR.ptr (he x (by simp [ho, Op.operands]) _ hv)
    have h3 : a.eval i = .int k i0 := he i (by simp [ho, Op.operands]) _ hi
    simp only [inside, Bool.and_eq_true, decide_eq_true_eq] at hin
    refine ⟨.pointer (some (N.at (off + i0.toNat * n))), ?_, ⟨N, h1, rfl, rfl⟩⟩
    have := index_run (P := P) hd (x := .pointer (some (N.at off))) (k := k) hn hin.1 hin.2 (.inl ⟨len, rfl, rfl, rfl⟩) w
    simp [execOp, ho, h2, h3, this, at_add]
  · rename_i e b off len c k i0 hd
    refine Sat.bind_lift fun n hn => Sat.bind_chk fun hin => Sat.ret _ (OpOk.pure fun ν a w he _ => ?_)
    obtain ⟨a', cap', h1, h2, h4, h5⟩ := he x (by simp [ho, Op.operands]) _ hv
    have h3 : a.eval i = .int k i0 := he i (by simp [ho, Op.operands]) _ hi
    simp only [inside, Bool.and_eq_true, decide_eq_true_eq] at hin
    obtain ⟨N, h6, _, rfl, _⟩ := h5 (by omega)
    refine ⟨.pointer (some (N.at (off + i0.toNat * n))), ?_, ⟨N, h6, rfl, rfl⟩⟩
    have := index_run (P := P) hd (x := .slice (some (N.at off)) len cap') (k := k) hn hin.1 hin.2 (.inr ⟨cap', rfl, rfl⟩) w
    simp [execOp, ho, h1, h3, this, at_add]
  · exact Sat.stop
theorem VRC.agg {ν : Nu} {cs : Array Value} {v' : Value} (h : VR ν (.agg cs) v') : ∃ cs', v' = .agg cs' ∧ L2 (VR1 ν) cs.toList cs'.toList := h
theorem part_ok {t : TypeId} {cs cs' : Array Value} {off : Nat} {ν : Nu} (h : L2 (VR1 ν) cs.toList cs'.toList) {u : Value} (w : World) :
    (aggT P t = some true → ∀ n, sz P t = some n → ∃ v', (part t cs' off).run P w = .ok v' w ∧ VR ν (.agg (cs.extract off (off + n))) v') ∧
    (aggT P t = some false → off < cs.size → ∃ v', (part t cs' off).run P w = .ok v' w ∧ VR ν (cs.toList.getD off undef) v') := by
  refine ⟨fun hg n hn => ⟨.agg (cs'.extract off (off + n)), ?_, ⟨_, rfl, ?_⟩⟩, fun hg hlt => ?_⟩
  · simp [part, run_aggT hg, run_sz hn]
  · rw [Array.toList_extract, Array.toList_extract]
    unfold List.extract
    exact (h.drop off).take _
  · have hx : cs.toList[off]? = some (cs.toList.getD off undef) := by rw [List.getD_eq_getElem?_getD, List.getElem?_eq_getElem (by simpa using hlt)]; rfl
    obtain ⟨v', hv', hr⟩ := h.get off _ hx
    refine ⟨v', ?_, VR.of1 hr⟩
    have : cs'[off]? = some v' := by simpa using hv'
    simp [part, run_aggT hg, this]
theorem part_sat {t : TypeId} {cs : Array Value} {off : Nat} (hk : ∀ u, (∀ ν (a : Act) w, Env ν fr a o → ∀ cs', L2 (VR1 ν) cs.toList cs'.toList → ∃ v', (part t cs' off).run P w = .ok v' w ∧ VR ν u v') → OpOk P F fr hp o ⟨u, hp, []⟩) :
    Sat ((partA P t cs off).map fun v => (⟨v, hp, []⟩ : Res)) (OpOk P F fr hp o) := by
  apply Sat.map
  unfold partA
  refine Sat.bind_lift fun g hg => ?_
  cases g with
  | true =>
    rw [if_pos rfl]
    exact Sat.bind_lift fun n hn => Sat.bind_chk fun _ => Sat.ret _ (hk _ fun ν a w _ cs' h => (part_ok h (u := undef) w).1 hg n hn)
  | false =>
    rw [if_neg Bool.false_ne_true]
    refine Sat.bind_chk fun hlt => Sat.asT.mono fun u hu => ?_
    subst hu
    exact hk _ fun ν a w _ cs' h => (part_ok h (u := undef) w).2 hg (by simpa using hlt)
theorem fieldv_sat {t : TypeId} {x : Operand} {f : Nat} (ho : o.op = .field t x f) : Sat ((lift (val fr x)).bind fun v => match v, P.underlying t with
      | .agg cs, some (.struct fs) => (lift (fs[f]?)).bind fun g => (partA P g.type cs g.offset).map fun v => (⟨v, hp, []⟩ : Res)
      | _, _ => stop) (OpOk P F fr hp o) := by
  refine Sat.bind_lift fun v hv => ?_
  split
  · rename_i cs fs hd
    refine Sat.bind_lift fun g hg => part_sat fun u hu => OpOk.pure fun ν a w he _ => ?_
    obtain ⟨cs', h1, h2⟩ := VRC.agg (he x (by simp [ho, Op.operands]) _ hv)
    obtain ⟨v', h3, h4⟩ := hu ν a w he cs' h2
    exact ⟨v', by simp [execOp, ho, h1, Instr.field, run_und hd, hg, asAgg, h3], h4⟩
  · exact Sat.stop
theorem indexv_sat {t : TypeId} {x i : Operand} (ho : o.op = .index t x i) : Sat ((lift (val fr x)).bind fun v => (lift (val fr i)).bind fun i => match P.underlying t, v, i with
      | some (.array len e), .agg cs, .int _ i => (lift (sz P e)).bind fun n => (chk (inside i len)).bind fun _ => (partA P e cs (i.toNat * n)).map fun v => (⟨v, hp, []⟩ : Res)
      | some .string, .string s, .int _ i => (chk (inside i s.size)).bind fun _ => ret (⟨.int .u8 ((s.data.toList.getD i.toNat 0).toNat : Nat), hp, []⟩ : Res)
      | _, _, _ => stop) (OpOk P F fr hp o) := by
  refine Sat.bind_lift fun v hv => Sat.bind_lift fun iv hi => ?_
  split
  · rename_i len e cs k i0 hd
    refine Sat.bind_lift fun n hn => Sat.bind_chk fun hin => part_sat fun u hu => OpOk.pure fun ν a w he _ => ?_
    obtain ⟨cs', h1, h2⟩ := VRC.agg (he x (by simp [ho, Op.operands]) _ hv)
    have h3 : a.eval i = .int k i0 := he i (by simp [ho, Op.operands]) _ hi
    obtain ⟨v', h4, h5⟩ := hu ν a w he cs' h2
    simp only [inside, Bool.and_eq_true, decide_eq_true_eq] at hin
    exact ⟨v', by simp [execOp, ho, h1, h3, Instr.index, asIntOf, run_und hd, hin.1, hin.2, run_sz hn, h4], h5⟩
  · rename_i s k i0 hd
    refine Sat.bind_chk fun hin => Sat.ret _ (OpOk.pure fun ν a w he _ => ?_)
    have h1 : a.eval x = .string s := he x (by simp [ho, Op.operands]) _ hv
    have h3 : a.eval i = .int k i0 := he i (by simp [ho, Op.operands]) _ hi
    simp only [inside, Bool.and_eq_true, decide_eq_true_eq] at hin
    have hlt : i0.toNat < s.size := by omega
    have hb : s[i0.toNat]? = some (s[i0.toNat]'hlt) := by simp [hlt]
    have hbe : (s[i0.toNat]'hlt) = s.data.toList.getD i0.toNat 0 := by
      rw [List.getD_eq_getElem?_getD, List.getElem?_eq_getElem (by simpa using hlt)]
      rfl
    refine ⟨.int .u8 ((s.data.toList.getD i0.toNat 0).toNat : Nat), ?_, rfl⟩
    simp only [execOp, ho, h1, h3, Instr.index, asIntOf, Sem.run_bind, Sem.run_pure, Result.andThen_ok, run_und hd, if_pos hin.1, hb, hbe]
  · exact Sat.stop
end
end Go.Proofs.Ytfjlaplhglfcaaa.Ex
