/- What one operation does: append. -/
import Derived.Test.YtfjlaplhglfcaaaExJ
namespace Go.Proofs.Ytfjlaplhglfcaaa.Ex
open Go
set_option linter.unusedVariables false
set_option linter.unusedSimpArgs false
section
variable {P : Program} {F : List Nat} {fr : Fr} {hp : Hp} {o : Oper}
theorem grow_run {ts : Array TypeId} {t t2 e ty : TypeId} {i : TypeInfo} {z : Value} (h0 : ts[0]? = some t) (h1 : ts[1]? = some t2) (ht : P.underlying t = some (.slice e))
    (h2 : (∃ e2, P.underlying t2 = some (.slice e2)) ∨ P.underlying t2 = some .string) (hi : P.info? e = some i) (hz : i.zero = some z) {base : Option Addr} {l cap n : Nat} {x : Value} {olds news : List Value} (w : World)
    (hlen : ∀ W, (Builtin.lenOf x).run P W = .ok n W) (hold : ∀ W : World, W.heap = w.heap → (Builtin.firstCells i.size l (.slice base l cap)).run P W = .ok olds.toArray W)
    (hnew : ∀ W : World, W.heap = w.heap → (Builtin.firstCells i.size n x).run P W = .ok news.toArray W) (hg : cap < l + n) (h63 : ((l + n : Nat) : Int) ≤ 9223372036854775807) (hfit : Builtin.nextslicecap (l + n) cap * i.bytes ≤ 281474976710656) :
    (Builtin.append_ ts ty #[.slice base l cap, x]).run P w = .ok (.slice (some ⟨w.heap.size, 0, none⟩) (l + n) (grownCap w (l + n) cap e))
      (w.drew.alloc (.cells (olds.toArray ++ news.toArray ++ Builtin.zeroCells z.cells (grownCap w (l + n) cap e - (l + n))) e)) := by
  have hn : ¬ (l + n ≤ cap) := by omega
  have h63' : ¬ (9223372036854775807 < ((l : Int) + (n : Int))) := by omega
  have h48' : ¬ (281474976710656 < Builtin.nextslicecap (l + n) cap * i.bytes) := by omega
  have hf := hnew w.drew rfl
  have hfo := hold w.drew rfl
  rcases h2 with ⟨e2, h2⟩ | h2
  · simp [Builtin.append_, h0, h1, run_underlying ht, run_underlying h2, sizeOf, typeInfo, zeroValue, hi, hz, hlen, hn, h63', h48', Question.forced, hf, hfo, newRow, grownCap]
    congr 2
    apply Array.ext'
    simp [List.append_assoc]
  · simp [Builtin.append_, h0, h1, run_underlying ht, run_underlying h2, sizeOf, typeInfo, zeroValue, hi, hz, hlen, hn, h63', h48', Question.forced, hf, hfo, newRow, grownCap]
    congr 2
    apply Array.ext'
    simp [List.append_assoc]
theorem room_run {ts : Array TypeId} {t t2 e ty : TypeId} {i : TypeInfo} (h0 : ts[0]? = some t) (h1 : ts[1]? = some t2) (ht : P.underlying t = some (.slice e))
    (h2 : (∃ e2, P.underlying t2 = some (.slice e2)) ∨ P.underlying t2 = some .string) (hi : P.info? e = some i) {a : Addr} {l cap n : Nat} {x : Value} {news : List Value} {w w' : World}
    (hlen : ∀ W, (Builtin.lenOf x).run P W = .ok n W) (hnew : (Builtin.firstCells i.size n x).run P w = .ok news.toArray w) (hg : l + n ≤ cap)
    (hst : (storeCells (a.add (l * i.size)) news).run P w = .ok () w') :
    (Builtin.append_ ts ty #[.slice (some a) l cap, x]).run P w = .ok (.slice (some a) (l + n) cap) w' := by
  rcases h2 with ⟨e2, h2⟩ | h2
  · simp [Builtin.append_, h0, h1, run_underlying ht, run_underlying h2, sizeOf, typeInfo, hi, hlen, hg, hnew, hst]
  · simp [Builtin.append_, h0, h1, run_underlying ht, run_underlying h2, sizeOf, typeInfo, hi, hlen, hg, hnew, hst]
theorem none_run {ts : Array TypeId} {t t2 e ty : TypeId} {i : TypeInfo} (h0 : ts[0]? = some t) (h1 : ts[1]? = some t2) (ht : P.underlying t = some (.slice e))
    (h2 : (∃ e2, P.underlying t2 = some (.slice e2)) ∨ P.underlying t2 = some .string) (hi : P.info? e = some i) {x : Value} {news : List Value} {w : World}
    (hlen : ∀ W, (Builtin.lenOf x).run P W = .ok 0 W) (hnew : (Builtin.firstCells i.size 0 x).run P w = .ok news.toArray w) :
    (Builtin.append_ ts ty #[.slice none 0 0, x]).run P w = .ok (.slice none 0 0) w := by
  rcases h2 with ⟨e2, h2⟩ | h2
  · simp [Builtin.append_, h0, h1, run_underlying ht, run_underlying h2, sizeOf, typeInfo, hi, hlen, hnew]
  · simp [Builtin.append_, h0, h1, run_underlying ht, run_underlying h2, sizeOf, typeInfo, hi, hlen, hnew]
theorem put_end : ∀ (vs cs : List Value), cs.length ≤ cs.length → ∀ tl : List Value, vs.length ≤ tl.length → (put (cs ++ tl) cs.length vs).take (cs.length + vs.length) = cs ++ vs
  | [], cs, _, tl, _ => by simp [put]
  | v :: vs, cs, _, [], h => by simp at h
  | v :: vs, cs, _, x :: tl, h => by
    have ih := put_end vs (cs ++ [v]) (Nat.le_refl _) tl (by simpa using h)
    have e1 : (cs ++ x :: tl).set cs.length v = cs ++ [v] ++ tl := by
      rw [List.set_append_right _ _ (Nat.le_refl _)]
      simp
    rw [put, e1]
    have e2 : cs.length + (v :: vs).length = (cs ++ [v]).length + vs.length := by simp; omega
    rw [e2]
    have e3 : cs.length + 1 = (cs ++ [v]).length := by simp
    rw [e3, ih]
    simp
theorem put_at_end (vs l : List Value) (n : Nat) (h : n + vs.length ≤ l.length) : (put l n vs).take (n + vs.length) = l.take n ++ vs := by
  have h1 : (l.take n).length = n := by rw [List.length_take]; omega
  have := put_end vs (l.take n) (Nat.le_refl _) (l.drop n) (by rw [List.length_drop]; omega)
  rw [h1, List.take_append_drop] at this
  exact this
theorem append_sat {ts as : Array TypeId} {xs : Array Operand} {t t2 : TypeId} {s v : Value} (ho : o.op = .call { callee := .builtin .append, args := xs, argTypes := ts }) (h0 : ts[0]? = some t) (h1 : ts[1]? = some t2)
    (h2 : (∃ e2, P.underlying t2 = some (.slice e2)) ∨ P.underlying t2 = some .string) (hvs : vals fr xs.toList = some [s, v]) (hFs : ∀ id, id ∈ idsV s → id ∈ F) (hF : ∀ id, id ∈ idsV v → id ∈ F) : Sat (appendA P hp t s v) (OpOk P F fr hp o) := by
  obtain ⟨x, y, rfl, hx, hy⟩ := vals_two hvs
  unfold appendA
  split
  · rename_i e ht
    refine Sat.bind_lift fun i hi => Sat.bind_lift fun z hz => Sat.bind (news_sat hF) fun news hn => Sat.bind_chk fun hc => ?_
    simp only [Bool.and_eq_true, beq_iff_eq, decide_eq_true_eq] at hc
    obtain ⟨⟨⟨hzs, hi0⟩, hb0⟩, hfl⟩ := hc
    have hsz : sz P e = some i.size := by unfold sz; rw [hi]; rfl
    have hex : ∀ (a : Act) (w w' : World) (r : Value), (∀ ty, (Builtin.append_ ts ty #[a.eval x, a.eval y]).run P w = .ok r w') → (execOp a.eval o).run P w = .ok (.value r) w' := by
      intro a w w' r hr
      simp only [execOp, ho, resolve, invoke, builtin, Sem.run_bind, Result.andThen_ok, Sem.run_pure, List.map_toArray, List.map_cons, List.map_nil, hr]
    split
    · refine Sat.bind_chk fun hm => Sat.bind_ask ?_
      simp only [Bool.and_eq_true, decide_eq_true_eq, most] at hm
      obtain ⟨hm1, hm2⟩ := hm
      replace hm1 : news.1 * i.bytes ≤ 140737488351232 := of_decide_eq_true hm1
      replace hm2 : news.1 ≤ 140737488351232 := of_decide_eq_true hm2
      split
      · rename_i hb
        replace hb := of_decide_eq_true hb
        refine Sat.ret _ (OpOk.pure fun ν a w he hpre => ⟨.slice none 0 0, ?_, rfl⟩)
        obtain ⟨cs', N⟩ := hn ν w hpre _ (he y (by simp [ho, Op.operands, Call.operands]) _ hy)
        have ex : a.eval x = .slice none 0 0 := he x (by simp [ho, Op.operands, Call.operands]) _ hx
        have hl := N.lenOf
        rw [hb] at hl
        exact hex a w w _ fun ty => by rw [ex]; exact none_run h0 h1 ht h2 hi hl (N.first w rfl 0 (Nat.zero_le _))
      · rename_i hb
        have hb' : news.1 ≠ 0 := fun h => hb (by simp [h])
        refine Sat.ret _ ⟨Shape.new, fun ν a w he hpre next Q hnx => ?_⟩
        obtain ⟨cs', N⟩ := hn ν w hpre _ (he y (by simp [ho, Op.operands, Call.operands]) _ hy)
        have ex : a.eval x = .slice none 0 0 := he x (by simp [ho, Op.operands, Call.operands]) _ hx
        have hl := N.rel.len
        have htk : cs'.take (news.1 * i.size) = cs' := List.take_of_length_le (by rw [← hl, N.len]; exact Nat.le_refl _)
        have hge := grownCap_ge w (0 + news.1) 0 e
        have hrun := hex a w _ _ fun ty => by
          rw [ex]
          exact grow_run (ty := ty) (olds := []) (news := cs') h0 h1 ht h2 hi hz w N.lenOf (fun W _ => by simp [Builtin.firstCells]) (fun W hW => by
            have := N.first W hW news.1 (Nat.le_refl _)
            rw [htk] at this
            exact this) (by omega) (by omega) (growslice_fits (by omega) (by rw [Nat.zero_add]; omega))
        have hcs : (([] : List Value).toArray ++ cs'.toArray ++ Builtin.zeroCells z.cells (grownCap w (0 + news.1) 0 e - (0 + news.1))).size = grownCap w (0 + news.1) 0 e * i.size := by
          simp only [Array.size_append, List.size_toArray, List.length_nil, size_zeroCells, hzs, ← hl, N.len]
          rw [Nat.zero_add, ← Nat.add_mul]
          congr 1
          omega
        refine wp_value hrun (hnx _ _ _ (Post.new (w := w) (w' := w.drew.alloc (.cells (([] : List Value).toArray ++ cs'.toArray ++ Builtin.zeroCells z.cells (grownCap w (0 + news.1) 0 e - (0 + news.1))) e)) (e := e) (lo := 0) (hi := 0) (cs := news.2.1) hpre rfl rfl rfl rfl (fun o _ hh => by omega) (by
          rw [hcs, N.len]
          exact Nat.mul_le_mul_right _ (by omega)) (by
          simp only [Array.toList_append, List.nil_append]
          rw [hl, List.take_left]
          refine CR.of (e := e) N.rel ?_
          cases hf : flatT P 6 e with
          | false => rfl
          | true => rw [hf] at hfl; simp at hfl; simp [N.flat hfl]) _) ?_)
        rw [Nat.zero_add] at hge ⊢
        exact named_slice hge hge (by rw [hsz, ← Nat.zero_add news.1, hcs]; rfl)
    · rename_i b len cap
      split
      · rename_i e' cs hbk
        refine Sat.bind_chk fun hm => Sat.bind_ask ?_
        simp only [Bool.and_eq_true, beq_iff_eq, decide_eq_true_eq, most] at hm
        obtain ⟨⟨⟨rfl, hm1⟩, hm2⟩, hm3⟩ := hm
        replace hm1 : (len + news.1) * i.bytes ≤ 140737488351232 := of_decide_eq_true hm1
        replace hm2 : len + news.1 ≤ 140737488351232 := of_decide_eq_true hm2
        have hbF : b ∈ F := hFs b (by simp [idsV, idsVC, idsV1])
        split
        · rename_i hb1
          replace hb1 := of_decide_eq_true hb1
          refine Sat.bind_chk fun hc2 => Sat.ret _ ⟨Shape.write hbF hbk, fun ν a w he hpre next Q hnx => ?_⟩
          replace hc2 := of_decide_eq_true hc2
          obtain ⟨cs', N⟩ := hn ν w hpre _ (he y (by simp [ho, Op.operands, Call.operands]) _ hy)
          obtain ⟨a', cap', ex, k2, k3, k4⟩ := he x (by simp [ho, Op.operands, Call.operands]) _ hx
          have hl := N.rel.len
          have htk : cs'.take (news.1 * i.size) = cs' := List.take_of_length_le (by rw [← hl, N.len]; exact Nat.le_refl _)
          have hrel : L2 (CR P ν e') news.2.1 cs' := by
            refine CR.of N.rel ?_
            cases hf : flatT P 6 e' with
            | false => rfl
            | true => rw [hf] at hfl; simp at hfl; simp [N.flat hfl]
          have hfit : (len + news.1) * i.size ≤ cap * i.size := Nat.mul_le_mul_right _ hb1
          rw [Nat.add_mul] at hfit
          obtain ⟨M, w', m1, m2, m3⟩ := write_ok (v := .slice (some ⟨b, 0, none⟩) (len + news.1) cap) hpre hbF hbk (off := len * i.size) (by rw [N.len]; omega) hrel
          have hfc : (Builtin.firstCells i.size news.1 (a.eval y)).run P w = .ok cs'.toArray w := by
            have := N.first w rfl news.1 (Nat.le_refl _)
            rw [htk] at this
            exact this
          have hrun := hex a w w' (.slice (some a') (len + news.1) cap') fun ty => by
            rw [ex]
            refine room_run h0 h1 ht h2 hi N.lenOf hfc (by omega) ?_
            by_cases hp : 0 < cap'
            · obtain ⟨N', n1, _, rfl, _⟩ := k4 hp
              rw [show ν b = some N' from n1] at m1
              cases m1
              rw [at_add]
              simpa using m2
            · have : cs' = [] := List.eq_nil_of_length_eq_zero (by rw [← hl, N.len]; have : news.1 = 0 := by omega
                                                                   rw [this]; simp)
              rw [this] at m2 ⊢
              exact m2
          refine wp_value hrun (hnx _ _ _ m3 ⟨_, _, rfl, k2, by omega, fun hp => k4 hp⟩)
        · rename_i hb1
          refine Sat.bind_chk fun hc2 => Sat.ret _ ⟨Shape.moved hbF hbk, fun ν a w he hpre next Q hnx => ?_⟩
          replace hc2 := of_decide_eq_true hc2
          replace hb1 : ¬ (len + news.1 ≤ cap) := fun h => hb1 (decide_eq_true h)
          obtain ⟨cs', N⟩ := hn ν w hpre _ (he y (by simp [ho, Op.operands, Call.operands]) _ hy)
          obtain ⟨a', cap', ex, k2, k3, k4⟩ := he x (by simp [ho, Op.operands, Call.operands]) _ hx
          have hl := N.rel.len
          have htk : cs'.take (news.1 * i.size) = cs' := List.take_of_length_le (by rw [← hl, N.len]; exact Nat.le_refl _)
          have hrel : L2 (CR P ν e') news.2.1 cs' := by
            refine CR.of N.rel ?_
            cases hf : flatT P 6 e' with
            | false => rfl
            | true => rw [hf] at hfl; simp at hfl; simp [N.flat hfl]
          have hbl := hpre.blk b hbF
          rw [hbk] at hbl
          obtain ⟨g, cur, lo, hi', q1, q2, q3, q4, q5⟩ := hbl
          have hql := q5.len
          have hns : news.2.1.length = news.1 * i.size := N.len
          have hfc : ∀ W : World, W.heap = w.heap → (Builtin.firstCells i.size news.1 (a.eval y)).run P W = .ok cs'.toArray W := fun W hW => by
            have := N.first W hW news.1 (Nat.le_refl _)
            rw [htk] at this
            exact this
          by_cases hroom : len + news.1 ≤ cap'
          · obtain ⟨N', n1, _, rfl, n4⟩ := k4 (by omega)
            rw [show ν b = some N' from n1] at q1
            cases q1
            rw [hsz] at n4
            have n4' : cap' * i.size = cur.size := by simpa using n4
            have hfit : (len + news.1) * i.size ≤ cap' * i.size := Nat.mul_le_mul_right _ hroom
            rw [Nat.add_mul] at hfit
            obtain ⟨w', s1, s2, s3, s4, s5, s6, s7⟩ := storeCells_run (P := P) (off := len * i.size) cs' 0 cur w q2 (by omega) q3 (L2.ones (hrel.mono fun _ _ hh => hh.1))
            have hrun := hex a w w' _ fun ty => by
              rw [ex]
              refine room_run h0 h1 ht h2 hi N.lenOf (hfc w rfl) hroom ?_
              rw [at_add]
              simpa [Nm.at] using s1
            have hsz' : ((put cur.toList (len * i.size + 0) cs').toArray).size = cur.size := by simp [put_len]
            have hpost := Post.moved (w' := w') (g' := g) (cs' := cs ++ news.2.1) (lo := lo) (hi := hi') hpre hbF hbk n1 s2 (.inl rfl) (fun k _ hk => s3 k hk) (by omega) s5 s6 s7 (by rw [hsz']; exact q3) (by
              rw [hsz', List.length_append]; omega) (by
              rw [List.length_append, List.toList_toArray, Nat.add_zero, hc2, hl]
              rw [put_at_end _ _ _ (by simp; omega)]
              rw [← hc2]
              exact q5.append hrel) (.slice (some ⟨hp.length, 0, none⟩) (len + news.1) (len + news.1))
            exact wp_value hrun (hnx _ _ _ hpost (named_slice hroom hroom (by rw [hsz, hsz']; exact n4')))
          · have hge := grownCap_ge w (len + news.1) cap' e'
            have hold : ∀ W : World, W.heap = w.heap → (Builtin.firstCells i.size len (.slice (some a') len cap')).run P W = .ok (cur.toList.take cs.length).toArray W := by
              intro W hW
              by_cases hp : 0 < cap'
              · obtain ⟨N', n1, _, rfl, n4⟩ := k4 hp
                rw [show ν b = some N' from n1] at q1
                cases q1
                have hr := run_loadCells_list (P := P) (w := W) ⟨g, 0, none⟩ (cur.toList.take cs.length) (fun j v hj => by
                  rw [List.getElem?_take] at hj
                  have hadd : (⟨g, 0, none⟩ : Addr).add j = ⟨g, j, none⟩ := by
                    have := at_add (⟨g, 0, 0, 0⟩ : Nm) 0 j
                    simpa [Nm.at] using this
                  rw [hadd]
                  split at hj
                  · simpa [World.cell?, hW, q2] using hj
                  · cases hj)
                rw [← hql, hc2] at hr
                simpa [Builtin.firstCells, Nm.at, hc2] using hr
              · have : len = 0 := by omega
                have h0 : cs.length = 0 := by rw [hc2, this]; simp
                rw [this, h0]
                simp [Builtin.firstCells, loadCells, loadCellsFrom]
            have hrun := hex a w _ _ fun ty => by
              rw [ex]
              exact grow_run (ty := ty) (news := cs') h0 h1 ht h2 hi hz w N.lenOf hold hfc (by omega) (by omega) (growslice_fits (by omega) (by omega))
            have hcs : ((cur.toList.take cs.length).toArray ++ cs'.toArray ++ Builtin.zeroCells z.cells (grownCap w (len + news.1) cap' e' - (len + news.1))).size = grownCap w (len + news.1) cap' e' * i.size := by
              simp only [Array.size_append, List.size_toArray, size_zeroCells, hzs]
              rw [← hql, hc2, ← hl, hns, ← Nat.add_mul, ← Nat.add_mul]
              congr 1
              omega
            have hpost := Post.moved (w' := w.drew.alloc (.cells ((cur.toList.take cs.length).toArray ++ cs'.toArray ++ Builtin.zeroCells z.cells (grownCap w (len + news.1) cap' e' - (len + news.1))) e')) (g' := w.heap.size) (cs' := cs ++ news.2.1) (lo := 0) (hi := 0) hpre hbF hbk q1 (heap_alloc_new w.drew _) (.inr (Nat.le_refl _)) (fun k hk _ => heap_alloc_old w.drew _ k hk) (by simp) rfl rfl rfl (fun o _ hh => by omega) (by
              rw [hcs, List.length_append, hc2, hns, ← Nat.add_mul]
              exact Nat.mul_le_mul_right _ hge) (by
              have e1 : (cs ++ news.2.1).length = (cur.toList.take cs.length ++ cs').length := by rw [List.length_append, List.length_append, ← hql, hl]
              rw [e1]
              simp only [Array.toList_append]
              rw [List.take_left]
              exact q5.append hrel) (.slice (some ⟨hp.length, 0, none⟩) (len + news.1) (len + news.1))
            exact wp_value hrun (hnx _ _ _ hpost (named_slice hge hge (by rw [hsz, hcs]; rfl)))
      · exact Sat.stop
    · exact Sat.stop
  · exact Sat.stop
end
end Go.Proofs.Ytfjlaplhglfcaaa.Ex
