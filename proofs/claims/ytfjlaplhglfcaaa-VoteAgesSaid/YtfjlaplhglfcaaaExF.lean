/- What one operation does: cuts, parts put together, conversions, tests. -/
import Derived.Test.YtfjlaplhglfcaaaExE
namespace Go.Proofs.Ytfjlaplhglfcaaa.Ex
open Go
set_option linter.unusedVariables false
set_option linter.unusedSimpArgs false
section
variable {P : Program} {F : List Nat} {fr : Fr} {hp : Hp} {o : Oper}
theorem bound_run {k : IntKind} {i : Int} {y : Nat} (h0 : 0 ≤ i) (h1 : i ≤ (y : Int)) (c : BoundsCode) (w : World) : (Instr.sliceBound (.int k i) y c).run P w = .ok i.toNat w := by
  simp [Instr.sliceBound, asIntOf, h0, h1]
/-- The bounds of a cut. -/
theorem bounds_run {isS : Bool} {len cap' : Nat} {lo hi : Option Value} {h l : Nat}
    (hh : (hi = none ∧ h = len) ∨ ∃ k i, hi = some (.int k i) ∧ 0 ≤ i ∧ i ≤ (cap' : Int) ∧ h = i.toNat)
    (hl : (lo = none ∧ l = 0) ∨ ∃ k i, lo = some (.int k i) ∧ 0 ≤ i ∧ i ≤ (h : Int) ∧ l = i.toNat) (w : World) :
    (Instr.sliceBounds isS len cap' lo hi none).run P w = .ok (l, h, cap') w := by
  rcases hh with ⟨rfl, rfl⟩ | ⟨k, i, rfl, h0, h1, rfl⟩
  · rcases hl with ⟨rfl, rfl⟩ | ⟨k, i, rfl, h2, h3, rfl⟩
    · simp [Instr.sliceBounds]
    · simp [Instr.sliceBounds, bound_run h2 h3]
  · rcases hl with ⟨rfl, rfl⟩ | ⟨k', i', rfl, h2, h3, rfl⟩
    · simp [Instr.sliceBounds, bound_run h0 h1]
    · simp [Instr.sliceBounds, bound_run h0 h1, bound_run h2 h3]
theorem Sat.bound {y d : Nat} {x : Option Value} {β : Type} {f : Nat → M β} {S : β → Prop}
    (h : ∀ n, ((x = none ∧ n = d) ∨ ∃ k i, x = some (.int k i) ∧ 0 ≤ i ∧ i ≤ (y : Int) ∧ n = i.toNat) → Sat (f n) S) : Sat ((boundA y d x).bind f) S := by
  refine Sat.bind (R := fun n => (x = none ∧ n = d) ∨ ∃ k i, x = some (.int k i) ∧ 0 ≤ i ∧ i ≤ (y : Int) ∧ n = i.toNat) ?_ h
  unfold boundA
  split
  · exact Sat.ret _ (.inl ⟨rfl, rfl⟩)
  · rename_i k i
    refine Sat.bind_chk fun hc => Sat.ret _ (.inr ⟨k, i, rfl, ?_, ?_, rfl⟩)
    · simp only [upto, Bool.and_eq_true, decide_eq_true_eq] at hc; exact hc.1
    · simp only [upto, Bool.and_eq_true, decide_eq_true_eq] at hc; exact hc.2
  · exact Sat.stop
theorem opt_eval {ν : Nu} {a : Act} {x : Option Operand} {v : Option Value} (h : optV fr x = some v) (he : ∀ y, x = some y → ∀ u, val fr y = some u → VR ν u (a.eval y)) :
    ((v = none ∧ x.map a.eval = none) ∨ ∃ u u', v = some u ∧ x.map a.eval = some u' ∧ VR ν u u') := by
  cases x with
  | none => cases h; exact .inl ⟨rfl, rfl⟩
  | some y =>
    simp only [optV] at h
    cases hy : val fr y with
    | none => rw [hy] at h; cases h
    | some u => rw [hy] at h; cases h; exact .inr ⟨u, _, rfl, rfl, he y rfl u hy⟩
theorem bnd_same {ν : Nu} {v v' : Option Value} (h : (v = none ∧ v' = none) ∨ ∃ u u', v = some u ∧ v' = some u' ∧ VR ν u u') {n d : Nat} {y : Nat}
    (hb : (v = none ∧ n = d) ∨ ∃ k i, v = some (.int k i) ∧ 0 ≤ i ∧ i ≤ (y : Int) ∧ n = i.toNat) {y' : Nat} (hy : y ≤ y') :
    (v' = none ∧ n = d) ∨ ∃ k i, v' = some (.int k i) ∧ 0 ≤ i ∧ i ≤ (y' : Int) ∧ n = i.toNat := by
  rcases hb with ⟨rfl, rfl⟩ | ⟨k, i, rfl, h0, h1, rfl⟩
  · rcases h with ⟨_, rfl⟩ | ⟨u, u', hh, _⟩
    · exact .inl ⟨rfl, rfl⟩
    · cases hh
  · rcases h with ⟨hh, _⟩ | ⟨u, u', hh, rfl, hv⟩
    · cases hh
    · cases hh
      rw [VR.int hv]
      exact .inr ⟨k, i, rfl, h0, by omega, rfl⟩
theorem cut_sat {t : TypeId} {x : Operand} {lo hi : Option Operand} (ho : o.op = .slice t x lo hi none) (hF : ∀ v, val fr x = some v → ∀ id, id ∈ idsV v → id ∈ F) :
    Sat ((lift (val fr x)).bind fun v => (lift (optV fr lo)).bind fun lo => (lift (optV fr hi)).bind fun hi => (cutA P hp t v lo hi).map fun v => (⟨v, hp, []⟩ : Res)) (OpOk P F fr hp o) := by
  refine Sat.bind_lift fun v hv => Sat.bind_lift fun lv hlo => Sat.bind_lift fun hv2 hhi => Sat.map ?_
  have eL : ∀ ν (a : Act), Env ν fr a o → ((lv = none ∧ lo.map a.eval = none) ∨ ∃ u u', lv = some u ∧ lo.map a.eval = some u' ∧ VR ν u u') := fun ν a he => opt_eval hlo fun y hy u hu => he y (by simp [ho, Op.operands, hy]) u hu
  have eH : ∀ ν (a : Act), Env ν fr a o → ((hv2 = none ∧ hi.map a.eval = none) ∨ ∃ u u', hv2 = some u ∧ hi.map a.eval = some u' ∧ VR ν u u') := fun ν a he => opt_eval hhi fun y hy u hu => he y (by simp [ho, Op.operands, hy]) u hu
  unfold cutA
  split
  · rename_i s hd
    refine Sat.bound fun h hh => Sat.bound fun l hl => Sat.ret _ (OpOk.pure fun ν a w he _ => ⟨_, ?_, rfl⟩)
    have h1 : a.eval x = .string s := he x (by simp [ho, Op.operands]) _ hv
    have b := bounds_run (P := P) (isS := false) (len := s.size) (cap' := s.size) (bnd_same (eH ν a he) hh (Nat.le_refl _)) (bnd_same (eL ν a he) hl (Nat.le_refl _)) w
    simp [execOp, ho, h1, Instr.sliceAt, run_und hd, Instr.slice, b]
  · rename_i e b off len cap hd
    refine Sat.bound fun h hh => Sat.bound fun l hl => Sat.bind_lift fun n hn => Sat.bind_lift fun u hu => Sat.bind_chk fun hun => Sat.ret _ (OpOk.pure fun ν a w he hpre => ?_)
    obtain ⟨a', cap', h1, h2, h3, h4⟩ := he x (by simp [ho, Op.operands]) _ hv
    have bd := bounds_run (P := P) (isS := true) (len := len) (cap' := cap') (bnd_same (eH ν a he) hh h2) (bnd_same (eL ν a he) hl (Nat.le_refl _)) w
    refine ⟨.slice (some (if cap' = l then a' else a'.add (l * n))) (h - l) (cap' - l), ?_, ⟨_, _, rfl, ?_, ?_, ?_⟩⟩
    · simp only [execOp, ho, h1, Instr.sliceAt, Instr.slice, Sem.run_bind, run_und hd, Result.andThen_ok, Option.map_none, bd, run_sz hn, Sem.run_pure]
      split <;> rfl
    · omega
    · have : h ≤ cap' := by
        rcases hh with ⟨_, rfl⟩ | ⟨k, i, _, h0, h5, rfl⟩ <;> omega
      omega
    · intro hpos
      have hl' : l ≤ cap' := by omega
      obtain ⟨N, k1, k2, k3, k4⟩ := h4 (by omega)
      refine ⟨N, k1, rfl, ?_, ?_⟩
      · rw [if_neg (by omega), k3, at_add]
      · have hu2 : N.u = n := by
          have hb := hpre.blk b (hF _ hv b (by simp [idsV, idsVC, idsV1]))
          simp only [beq_iff_eq] at hun
          unfold unit at hu
          split at hu
          · rename_i e' cs' he'
            rw [he'] at hb
            obtain ⟨g, cur, lo', hi', m1, _⟩ := hb
            change ν b = some N at k1
            rw [k1] at m1
            cases m1
            rw [← hun, hu]
            rfl
          · rename_i e' cs' he'
            rw [he'] at hb
            obtain ⟨N', m1, m2, _⟩ := hb
            change ν b = some N at k1
            rw [k1] at m1
            cases m1
            rw [m2, ← hun, hu]
            rfl
          · cases hu
        show off + l * n + (cap' - l) * N.u = N.S
        rw [hu2] at k4 ⊢
        change off + cap' * n = N.S at k4
        rw [Nat.add_assoc, ← Nat.add_mul, show l + (cap' - l) = cap' by omega]
        exact k4
  · rename_i e hd
    refine Sat.bound fun h hh => Sat.bound fun l hl => Sat.bind_lift fun n hn => Sat.ret _ (OpOk.pure fun ν a w he _ => ⟨.slice none 0 0, ?_, rfl⟩)
    have h1 : a.eval x = .slice none 0 0 := he x (by simp [ho, Op.operands]) _ hv
    have hh0 : h = 0 := by rcases hh with ⟨_, rfl⟩ | ⟨k, i, _, h0, h5, rfl⟩ <;> omega
    subst hh0
    have hl0 : l = 0 := by rcases hl with ⟨_, rfl⟩ | ⟨k, i, _, h0, h5, rfl⟩ <;> omega
    subst hl0
    have bd := bounds_run (P := P) (isS := true) (len := 0) (cap' := 0) (bnd_same (eH ν a he) hh (Nat.le_refl _)) (bnd_same (eL ν a he) hl (Nat.le_refl _)) w
    simp [execOp, ho, h1, Instr.sliceAt, Instr.slice, run_und hd, bd, run_sz hn]
  · exact Sat.stop
theorem extract_sat {x : Operand} {i : Nat} (ho : o.op = .extract x i) : Sat ((lift (val fr x)).bind fun v => match v with | .tuple vs => (lift (vs[i]?)).map fun v => (⟨v, hp, []⟩ : Res) | _ => stop) (OpOk P F fr hp o) := by
  refine Sat.bind_lift fun v hv => ?_
  split
  · rename_i vs
    refine Sat.map (Sat.lift fun u hu => OpOk.pure fun ν a w he _ => ?_)
    obtain ⟨cs', h1, h2⟩ := (he x (by simp [ho, Op.operands]) _ hv : VR ν (.tuple vs) _)
    obtain ⟨v', h3, h4⟩ := h2.get i u (by simpa using hu)
    refine ⟨v', ?_, VR.ofC h4⟩
    have : cs'[i]? = some v' := by simpa using h3
    simp [execOp, ho, h1, Instr.extract, this]
  · exact Sat.stop
theorem L2_VR1_of_VR0 {ν : Nu} {l m : List Value} (h : L2 (VR0 ν) l m) : L2 (VR1 ν) l m := h.mono fun a b hab => by
  cases a with
  | func fn f c => simp [VR0] at hab
  | _ => simp only [VR1]; exact hab
theorem VR.lvl0 {ν : Nu} {v v' : Value} (h : VR ν v v') (hl : lvl0 v = true) : VR0 ν v v' := by
  cases v with
  | agg cs => cases hl
  | tuple cs => cases hl
  | func fn f c => cases hl
  | _ => simp only [VR, VRC, VR1] at h; exact h
theorem L2.lvl0 {ν : Nu} {l m : List Value} (h : L2 (VR ν) l m) (hl : l.all Ex.lvl0 = true) : L2 (VR0 ν) l m := by
  induction h with
  | nil => exact .nil
  | cons h _ ih =>
    simp only [List.all_cons, Bool.and_eq_true] at hl
    exact .cons (h.lvl0 hl.1) (ih hl.2)
theorem func_sat {fn : Fn} {f c : Array Operand} (ho : o.op = .makeFunc fn f c) : Sat ((lift (vals fr f.toList)).bind fun f => (lift (vals fr c.toList)).bind fun c => (chk (f.all lvl0 && c.all lvl0)).bind fun _ => ret (⟨.func fn f.toArray c.toArray, hp, []⟩ : Res)) (OpOk P F fr hp o) := by
  refine Sat.bind_lift fun fv hf => Sat.bind_lift fun cv hc => Sat.bind_chk fun hl => Sat.ret _ (OpOk.pure fun ν a w he _ => ?_)
  simp only [Bool.and_eq_true] at hl
  have h1 := (vals_L2 (ν := ν) (a := a) hf fun x hx v hv => he x (by simp [ho, Op.operands]; exact .inl (by simpa using hx)) v hv).lvl0 hl.1
  have h2 := (vals_L2 (ν := ν) (a := a) hc fun x hx v hv => he x (by simp [ho, Op.operands]; exact .inr (by simpa using hx)) v hv).lvl0 hl.2
  refine ⟨.func fn (f.map a.eval) (c.map a.eval), by simp [execOp, ho, Instr.makeFunc], ⟨_, _, rfl, by simpa using h1, by simpa using h2⟩⟩
theorem put_L2 {R : Value → Value → Prop} : ∀ {vs vs' : List Value} {cs cs' : List Value} (o : Nat), L2 R vs vs' → L2 R cs cs' → L2 R (put cs o vs) (put cs' o vs')
  | _, _, _, _, _, .nil, h => h
  | _, _, _, _, o, .cons h1 h2, h => put_L2 (o + 1) h2 (h.set o h1)
theorem fold_put : ∀ (vs : List Value) (s off : Nat) (cells : Array Value), (((vs.zipIdx s).foldl (fun cs x => cs.setIfInBounds (off + x.2) x.1) cells)).toList = put cells.toList (off + s) vs
  | [], _, _, _ => rfl
  | v :: vs, s, off, cells => by
    rw [List.zipIdx_cons, List.foldl_cons, fold_put vs (s + 1) off, put]
    simp [Nat.add_assoc]
theorem fill_ok {ν : Nu} {pl : Nat → Option (Nat × Nat)} : ∀ {ps ps' : List (Nat × Value)} {cs cs' : List Value}, L2 (fun p q => p.1 = q.1 ∧ VRC ν p.2 q.2) ps ps' → L2 (VR1 ν) cs cs' →
    Sat (fillA pl cs ps) fun r => ∃ r', Instr.fill pl cs'.toArray ps' = some r' ∧ L2 (VR1 ν) r r'.toList
  | _, _, _, _, .nil, h => by
    unfold fillA
    exact Sat.ret _ ⟨_, rfl, by simpa using h⟩
  | (i, v) :: ps, (j, v') :: ps', cs, cs', .cons h1 h2, h => by
    obtain ⟨rfl, hv⟩ := h1
    unfold fillA
    refine Sat.bind_lift fun p hp' => Sat.bind_chk fun hc => ?_
    simp only [Bool.and_eq_true, beq_iff_eq, decide_eq_true_eq] at hc
    have hvc := hv.cells
    have hn : put cs p.1 v.cells.toList = put cs p.1 v.cells.toList := rfl
    refine (fill_ok (ν := ν) (pl := pl) h2 (put_L2 p.1 hvc h)).mono fun r hr => ?_
    obtain ⟨r', h3, h4⟩ := hr
    refine ⟨r', ?_, h4⟩
    have hs : v'.cells.size = v.cells.size := by have := hvc.len; simpa using this.symm
    have hl := h.len
    unfold Instr.fill
    rw [hp']
    simp only
    rw [if_neg (by simp; omega)]
    have e := fold_put v'.cells.toList 0 p.1 cs'.toArray
    rw [← h3]
    congr 1
    rw [← Array.foldl_toList, Array.toList_zipIdx]
    apply Array.toList_inj.1
    simpa using e
theorem parts_ok {ν : Nu} {a : Act} : ∀ {ps : List (Nat × Operand)} {vs : List (Nat × Value)}, parts fr ps = some vs → (∀ x, x ∈ ps.map (·.2) → ∀ v, val fr x = some v → VR ν v (a.eval x)) → vs.all (fun p => lvlC p.2) = true →
    L2 (fun p q => p.1 = q.1 ∧ VRC ν p.2 q.2) vs (ps.map fun p => (p.1, a.eval p.2))
  | [], _, h, _, _ => by cases h; exact .nil
  | (i, x) :: r, vs, h, he, hl => by
    simp only [parts] at h
    cases hx : val fr x with
    | none => rw [hx] at h; cases h
    | some v =>
      rw [hx] at h
      change (parts fr r).bind (fun vs => some ((i, v) :: vs)) = some vs at h
      cases hr : parts fr r with
      | none => rw [hr] at h; cases h
      | some us =>
        rw [hr] at h
        cases h
        simp only [List.all_cons, Bool.and_eq_true] at hl
        refine .cons ⟨rfl, ?_⟩ (parts_ok hr (fun y hy => he y (List.mem_cons_of_mem _ hy)) hl.2)
        have hv := he x (List.mem_cons_self ..) v hx
        cases v with
        | tuple cs => cases hl.1
        | _ => simp only [VR] at hv; exact hv
end
end Go.Proofs.Ytfjlaplhglfcaaa.Ex
