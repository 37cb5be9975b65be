/- What one operation does: copy. -/
import Derived.Test.YtfjlaplhglfcaaaExK
namespace Go.Proofs.Ytfjlaplhglfcaaa.Ex
open Go
set_option linter.unusedVariables false
set_option linter.unusedSimpArgs false
section
variable {P : Program} {F : List Nat} {fr : Fr} {hp : Hp} {o : Oper}
theorem copy_sat {ts : Array TypeId} {xs : Array Operand} {t : TypeId} {d s : Value} (ho : o.op = .call { callee := .builtin .copy, args := xs, argTypes := ts }) (h0 : ts[0]? = some t)
    (hvs : vals fr xs.toList = some [d, s]) (hFd : ∀ id, id ∈ idsV d → id ∈ F) (hF : ∀ id, id ∈ idsV s → id ∈ F) : Sat (copyA P hp t d s) (OpOk P F fr hp o) := by
  obtain ⟨x, y, rfl, hx, hy⟩ := vals_two hvs
  unfold copyA
  split
  · rename_i e b off len cap ht
    refine Sat.bind_lift fun n hn => Sat.bind (news_sat hF) fun news hN => ?_
    have hbF : b ∈ F := hFd b (by simp [idsV, idsVC, idsV1])
    refine wr_sat hbF ?_
    rintro hp' ⟨e', cs, he', hfit, hf, rfl⟩
    refine ⟨Shape.write hbF he', fun ν a w he hpre next Q hnx => ?_⟩
    obtain ⟨cs', N⟩ := hN ν w hpre _ (he y (by simp [ho, Op.operands, Call.operands]) _ hy)
    obtain ⟨a', cap', ex, k2, k3, k4⟩ := he x (by simp [ho, Op.operands, Call.operands]) _ hx
    have hmin : Nat.min news.1 len ≤ news.1 := Nat.min_le_left _ _
    have hmin2 : Nat.min news.1 len ≤ len := Nat.min_le_right _ _
    have hrel : L2 (CR P ν e') (news.2.1.take (Nat.min news.1 len * n)) (cs'.take (Nat.min news.1 len * n)) := by
      refine CR.of (N.rel.take _) ?_
      cases hf' : flatT P 6 e' with
      | false => rfl
      | true =>
        rw [hf'] at hf
        have hfl := N.flat (by simpa using hf)
        simp only [Bool.not_true, Bool.false_or]
        exact List.all_eq_true.2 fun x hx => List.all_eq_true.1 hfl x (List.mem_of_mem_take hx)
    obtain ⟨M, w', m1, m2, m3⟩ := write_ok (v := .int .i64 (Nat.min news.1 len : Nat)) hpre hbF he' hfit hrel
    have hfc := N.first w rfl _ hmin
    have hst : (storeCells a' (cs'.take (Nat.min news.1 len * n))).run P w = .ok () w' := by
      by_cases hp : 0 < cap'
      · obtain ⟨N', n1, _, rfl, _⟩ := k4 hp
        rw [show ν b = some N' from n1] at m1
        cases m1
        exact m2
      · have h1 : Nat.min news.1 len = 0 := by omega
        rw [h1, Nat.zero_mul, List.take_zero] at m2 ⊢
        exact m2
    have hrun : (execOp a.eval o).run P w = .ok (.value (.int .i64 (Nat.min news.1 len : Nat))) w' := by
      simp only [execOp, ho, resolve, invoke, builtin, Sem.run_bind, Result.andThen_ok, Sem.run_pure, List.map_toArray, List.map_cons, List.map_nil, Builtin.copy_, ex]
      simp [h0, run_und ht, N.lenOf, run_sz hn, hfc, hst, goInt]
    exact wp_value hrun (hnx _ _ _ m3 rfl)
  · exact Sat.stop
end
end Go.Proofs.Ytfjlaplhglfcaaa.Ex
