/- One operation, whichever. -/
import Derived.Test.YtfjlaplhglfcaaaExN
namespace Go.Proofs.Ytfjlaplhglfcaaa.Ex
open Go
set_option linter.unusedVariables false
set_option linter.unusedSimpArgs false
section
variable {P : Program} {F : List Nat} {fr : Fr} {hp : Hp} {o : Oper}
/-- No function has the one name that a call treats by itself. -/
def Named (P : Program) : Prop := ∀ (g : FuncId) (fn : Func), P.funcs[g]? = some fn → (fn.name == "runtime.NumGoroutine") = false
theorem callFunc_run (hN : Named P) {g : FuncId} (hb : bodied P g = true) (args : Array Value) (w : World) : (callFunc g args).run P w = .ok (.enter g args) w := by
  unfold bodied at hb
  split at hb
  · rename_i fn hf
    have h1 := hN g fn hf
    have h2 : fn.body.isNone = false := by cases hx : fn.body with
      | none => rw [hx] at hb; cases hb
      | some b => rfl
    simp [callFunc, hf]
    rw [if_neg (by simpa using h1), if_neg (by intro h; rw [h] at hb; cases hb)]
  · cases hb
theorem func_VR {ν : Nu} {g : FuncId} {f c : Array Value} {v' : Value} (h : VR ν (.func (.func g) f c) v') : ∃ f' c', v' = .func (.func g) f' c' ∧ L2 (VR ν) f.toList f'.toList ∧ L2 (VR ν) c.toList c'.toList := by
  obtain ⟨f', c', rfl, h1, h2⟩ := h
  exact ⟨f', c', rfl, h1.mono fun _ _ h => VR.ofC (VRC.of1 (VR1.of0 h)), h2.mono fun _ _ h => VR.ofC (VRC.of1 (VR1.of0 h))⟩
theorem callop_sat {call : CallF} (hN : Named P) (hcall : ∀ g args, (∀ id, id ∈ argIds P hp args → id ∈ F) → Sat (call g args hp) (CallOk P F g args hp)) {f : Operand} {xs : Array Operand} {ts : Array TypeId}
    (ho : o.op = .call { callee := .value f, args := xs, argTypes := ts }) (hF : ∀ id, id ∈ footA P fr hp o → id ∈ F) :
    Sat ((lift (val fr f)).bind fun fv => (lift (vals fr xs.toList)).bind fun vs => match fv with
      | .func (.func g) first captured => (chk (bodied P g)).bind fun _ => call g (first.toList ++ vs ++ captured.toList) hp
      | _ => stop) (OpOk P F fr hp o) := by
  refine Sat.bind_lift fun fv hf => Sat.bind_lift fun vs hvs => ?_
  split
  · rename_i g first captured
    refine Sat.bind_chk fun hb => ?_
    have hids : ∀ id, id ∈ argIds P hp (first.toList ++ vs ++ captured.toList) → id ∈ F := fun id hid => hF id (by
      unfold footA
      rw [ho]
      simp only [hf, hvs]
      exact hid)
    refine (hcall _ _ hids).mono fun r hr => ⟨hr.1, fun ν a w he hpre next Q hnx => ?_⟩
    obtain ⟨f', c', e1, h1, h2⟩ := func_VR (he f (by simp [ho, Op.operands, Call.operands]) _ hf)
    have h3 := vals_L2 (ν := ν) (a := a) hvs fun x hx v hv => he x (by simp [ho, Op.operands, Call.operands]; exact .inr (by simpa using hx)) v hv
    have hrun : (execOp a.eval o).run P w = .ok (.enter g (f' ++ xs.map a.eval ++ c')) w := by
      simp only [execOp, ho, resolve, e1, Deferred.ofValue, invoke, Sem.run_bind, Sem.run_pure, Result.andThen_ok, callFunc_run hN hb]
    have hl : L2 (VR ν) (first.toList ++ vs ++ captured.toList) (f' ++ xs.map a.eval ++ c').toList := by
      rw [Array.toList_append, Array.toList_append, Array.toList_map]
      exact (h1.append h3).append h2
    unfold Oper.wp
    rw [hrun, Oper.upon_enter]
    refine (hr.2 ν w _ hl hpre).mono ?_
    rintro e w' ⟨v', ν', rfl, k1, k2⟩
    exact hnx ν' v' w' k2 k1
  · exact Sat.stop
theorem footO {x : Operand} {v : Value} (hv : val fr x = some v) {id : Nat} (h : id ∈ idsV v) : id ∈ idsO fr x := by
  unfold idsO
  rw [hv]
  exact h
theorem opA_sat {call : CallF} (hN : Named P) (hcall : ∀ g args, (∀ id, id ∈ argIds P hp args → id ∈ F) → Sat (call g args hp) (CallOk P F g args hp)) (hF : ∀ id, id ∈ footA P fr hp o → id ∈ F) :
    Sat (opA P call fr hp o) (OpOk P F fr hp o) := by
  unfold opA
  split
  · rename_i x ho; exact move_sat (.inl ho)
  · rename_i x ho; exact move_sat (.inr ho)
  · rename_i c a b ho; exact pick_sat ho
  · rename_i e ho; exact alloc_sat ho
  · rename_i e x ho; exact box_sat ho
  · rename_i t x ho
    refine Sat.bind_lift fun v hv => load_sat ho hv fun id hid => hF id ?_
    unfold footA
    rw [ho]
    exact footO hv hid
  · rename_i t x y ho
    refine Sat.bind_lift fun av ha => Sat.bind_lift fun v hv => Sat.bind_chk fun hl => store_sat ho ha hv (fun id hid => hF id ?_) hl
    unfold footA
    rw [ho]
    exact footO ha hid
  · rename_i x ho; exact nil_sat ho
  · rename_i s x f ho; exact field_sat ho
  · rename_i t x i ho; exact index_sat ho
  · rename_i t x lo hi ho
    refine cut_sat ho fun v hv id hid => hF id ?_
    unfold footA
    rw [ho]
    exact footO hv hid
  · rename_i t x f ho; exact fieldv_sat ho
  · rename_i t x i ho; exact indexv_sat ho
  · rename_i x i ho; exact extract_sat ho
  · rename_i t ps ho; exact build_sat ho
  · rename_i t n ps ho; exact buildSlice_sat ho
  · rename_i t l c ho; exact makeSlice_sat ho
  · rename_i fn f c ho; exact func_sat ho
  · rename_i src dst x ho
    refine Sat.bind_lift fun v hv => conv_sat ho hv fun id hid => hF id ?_
    unfold footA
    rw [ho]
    exact footO hv hid
  · rename_i op t x y yt ho; exact bin_sat ho
  · rename_i xs ts ho
    refine Sat.bind_lift fun vs hvs => ?_
    split
    · rename_i s x t t2 h0 h1
      have hx : ∀ v, v = s ∨ v = x → ∀ id, id ∈ idsV v → id ∈ F := fun v hv id hid => hF id (by
        unfold footA
        rw [ho]
        obtain ⟨a, b, rfl, ha, hb⟩ := vals_two hvs
        rcases hv with rfl | rfl
        · exact List.mem_flatMap.2 ⟨a, by simp, footO ha hid⟩
        · exact List.mem_flatMap.2 ⟨b, by simp, footO hb hid⟩)
      split
      · rename_i e he; exact append_sat (as := ts) ho h0 h1 (.inl ⟨e, he⟩) hvs (hx s (.inl rfl)) (hx x (.inr rfl))
      · rename_i he; exact append_sat (as := ts) ho h0 h1 (.inr he) hvs (hx s (.inl rfl)) (hx x (.inr rfl))
      · exact Sat.stop
    · exact Sat.stop
  · rename_i xs ts ho
    refine Sat.bind_lift fun vs hvs => ?_
    split
    · rename_i s x t h0
      have hx : ∀ v, v = s ∨ v = x → ∀ id, id ∈ idsV v → id ∈ F := fun v hv id hid => hF id (by
        unfold footA
        rw [ho]
        obtain ⟨a, b, rfl, ha, hb⟩ := vals_two hvs
        rcases hv with rfl | rfl
        · exact List.mem_flatMap.2 ⟨a, by simp, footO ha hid⟩
        · exact List.mem_flatMap.2 ⟨b, by simp, footO hb hid⟩)
      exact copy_sat ho h0 hvs (hx s (.inl rfl)) (hx x (.inr rfl))
    · exact Sat.stop
  · rename_i xs ts ho; exact len_sat ho
  · rename_i f xs ts ho; exact callop_sat hN hcall ho hF
  · exact plain_sat
theorem opS_sat {call : CallF} (hN : Named P) (hcall : ∀ g args, (∀ id, id ∈ argIds P hp args → id ∈ F) → Sat (call g args hp) (CallOk P F g args hp)) (hF : ∀ id, id ∈ footA P fr hp o → id ∈ F) :
    Sat (opS P call fr hp o) (OpOk P F fr hp o) := by
  unfold opS
  refine Sat.bind (opA_sat hN hcall hF) fun r hr => Sat.map (Sat.see.mono fun u hu => ?_)
  subst hu
  exact hr
end
end Go.Proofs.Ytfjlaplhglfcaaa.Ex
