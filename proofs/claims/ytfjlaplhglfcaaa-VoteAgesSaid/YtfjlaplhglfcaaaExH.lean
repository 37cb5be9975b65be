/- What one operation does: those that make a block or write into one. -/
import Derived.Test.YtfjlaplhglfcaaaExG
namespace Go.Proofs.Ytfjlaplhglfcaaa.Ex
open Go
set_option linter.unusedVariables false
set_option linter.unusedSimpArgs false
section
variable {P : Program} {F : List Nat} {fr : Fr} {hp : Hp} {o : Oper}
theorem RepBlk.lt {ν : Nu} {w : World} {id : Nat} {b : Blk} (h : RepBlk P ν w id b) (hl : b.live = true) {N : Nm} (hN : ν id = some N) : N.g < w.heap.size := by
  cases b with
  | dead => cases hl
  | own e cs =>
    obtain ⟨g, cur, lo, hi, h1, h2, _⟩ := h
    rw [h1] at hN
    cases hN
    show g < w.heap.size
    rcases Nat.lt_or_ge g w.heap.size with hlt | hge
    · exact hlt
    · rw [Array.getElem?_eq_none hge] at h2; cases h2
  | ro e cs =>
    obtain ⟨N', h1, _, h3, _⟩ := h
    rw [h1] at hN
    cases hN
    exact h3
theorem own_live {b : Blk} (h : b.isOwn = true) : b.live = true := by cases b <;> first | rfl | cases h
/-- A new block's name. -/
def named (ν : Nu) (n : Nat) (N : Nm) : Nu := fun id => if id = n then some N else ν id
theorem named_le {ν : Nu} {n : Nat} {N : Nm} (h : ν n = none) : Le ν (named ν n N) := fun id M hM => by
  unfold named
  split
  · rename_i e; subst e; rw [h] at hM; cases hM
  · exact hM
theorem getD_snoc {b : Blk} (id : Nat) : (hp ++ [b]).getD id .dead = if id < hp.length then hp.getD id .dead else if id = hp.length then b else .dead := by
  simp only [List.getD_eq_getElem?_getD]
  rcases Nat.lt_trichotomy id hp.length with h | h | h
  · rw [if_pos h, List.getElem?_append_left h]
  · subst h
    rw [if_neg (Nat.lt_irrefl _), if_pos rfl, List.getElem?_append_right (Nat.le_refl _)]
    simp
  · rw [if_neg (by omega), if_neg (by omega), List.getElem?_append_right (by omega), List.getElem?_eq_none (by simp; omega)]
    rfl
theorem push_old {w : World} {x : Obj} {g : Nat} (h : g < w.heap.size) : (w.heap.push x)[g]? = w.heap[g]? := by
  rw [Array.getElem?_push, if_neg (by omega)]
theorem push_new {w : World} {x : Obj} : (w.heap.push x)[w.heap.size]? = some x := by simp
theorem Shape.new {v : Value} {b : Blk} : Shape F hp ⟨v, hp ++ [b], []⟩ :=
  ⟨by simp, fun _ h => by simp at h, fun _ h => by simp at h, fun id h _ => by
    show (hp ++ [b]).getD id .dead = _
    rw [getD_snoc, if_pos h]⟩
theorem Post.new {ν : Nu} {w w' : World} {e : TypeId} {cs : List Value} {cur : Array Value} {lo hi : Nat} (h : Pre P F ν hp w) (hw : w'.heap = w.heap.push (.cells cur e (lo, hi)))
    (h1 : w'.os = w.os) (h2 : w'.tape = w.tape) (h3 : w'.output = w.output) (hnf : ∀ o, o < cur.size → ¬ (lo ≤ o ∧ o < hi)) (hl : cs.length ≤ cur.size) (hc : L2 (CR P ν e) cs (cur.toList.take cs.length)) (v : Value) :
    Post P F ν hp w ⟨v, hp ++ [.own e cs], []⟩ (named ν hp.length ⟨w.heap.size, 0, cur.size, (sz P e).getD 0⟩) w' := by
  have le : Le ν (named ν hp.length ⟨w.heap.size, 0, cur.size, (sz P e).getD 0⟩) := named_le (h.dom _ (Nat.le_refl _))
  have hs : w.heap.size ≤ w'.heap.size := by rw [hw]; simp
  have at_new : ∀ id, hp.length ≤ id → id ≠ hp.length → named ν hp.length ⟨w.heap.size, 0, cur.size, (sz P e).getD 0⟩ id = none := fun id hid hne => by
    unfold named
    rw [if_neg hne]
    exact h.dom id hid
  refine ⟨fun id hid => ?_, fun id hid => ?_, fun id hid => ?_, fun i j N K hne hi' hj' ho hlv hN hK => ?_, h1, h2, h3, hs, fun g hg _ => ?_, fun id N hid hlv hN => ?_⟩
  · unfold named
    rw [if_neg (by omega)]
  · exact at_new id (by simp at hid; omega) (by simp at hid; omega)
  · show RepBlk P _ w' id ((hp ++ [Blk.own e cs]).getD id .dead)
    rw [getD_snoc]
    by_cases c1 : id < hp.length
    · rw [if_pos c1]
      have hF : id ∈ F := hid.resolve_right (by omega)
      have hb := h.blk id hF
      exact hb.le le (fun N hN hlive => by rw [hw]; exact push_old (hb.lt hlive hN)) hs
    · rw [if_neg c1]
      by_cases c2 : id = hp.length
      · rw [if_pos c2]
        subst c2
        refine ⟨w.heap.size, cur, lo, hi, by unfold named; rw [if_pos rfl], by rw [hw]; exact push_new, hnf, hl, hc.mono fun _ _ => CR.le le⟩
      · rw [if_neg c2]
        trivial
  · change ((hp ++ [Blk.own e cs]).getD i .dead).isOwn = true at ho
    change ((hp ++ [Blk.own e cs]).getD j .dead).live = true at hlv
    rw [getD_snoc] at ho hlv
    have old : ∀ k M, k < hp.length → (k ∈ F ∨ hp.length ≤ k) → (hp.getD k .dead).live = true → named ν hp.length ⟨w.heap.size, 0, cur.size, (sz P e).getD 0⟩ k = some M → ν k = some M ∧ M.g < w.heap.size ∧ k ∈ F := by
      intro k M hk hkF hkl hM
      unfold named at hM
      rw [if_neg (by omega)] at hM
      have hF := hkF.resolve_right (by omega)
      exact ⟨hM, (h.blk k hF).lt hkl hM, hF⟩
    by_cases ci : i < hp.length
    · rw [if_pos ci] at ho
      obtain ⟨a1, a2, a3⟩ := old i N ci hi' (own_live ho) hN
      by_cases cj : j < hp.length
      · rw [if_pos cj] at hlv
        obtain ⟨b1, b2, b3⟩ := old j K cj hj' hlv hK
        exact h.sep i j N K hne a3 b3 ho hlv a1 b1
      · rw [if_neg cj] at hlv
        split at hlv
        · rename_i ej
          subst ej
          unfold named at hK
          rw [if_pos rfl] at hK
          cases hK
          show N.g ≠ w.heap.size
          omega
        · cases hlv
    · rw [if_neg ci] at ho
      split at ho
      · rename_i ei
        subst ei
        unfold named at hN
        rw [if_pos rfl] at hN
        cases hN
        by_cases cj : j < hp.length
        · rw [if_pos cj] at hlv
          obtain ⟨b1, b2, b3⟩ := old j K cj hj' hlv hK
          show w.heap.size ≠ K.g
          omega
        · rw [if_neg cj, if_neg (fun e => hne e.symm)] at hlv
          cases hlv
      · cases ho
  · rw [hw]
    exact push_old hg
  · change ((hp ++ [Blk.own e cs]).getD id .dead).live = true at hlv
    rw [getD_snoc, if_neg (by omega)] at hlv
    split at hlv
    · rename_i ei
      subst ei
      unfold named at hN
      rw [if_pos rfl] at hN
      cases hN
      exact .inl (Nat.le_refl _)
    · cases hlv
theorem CR.of {ν : Nu} {e : TypeId} {l m : List Value} (h : L2 (VR1 ν) l m) (hf : (!flatT P 6 e || l.all flat1) = true) : L2 (CR P ν e) l m := by
  rcases Bool.or_eq_true _ _ ▸ hf with hf | hf
  · exact h.mono fun a b hab => ⟨hab, fun hh => by rw [hh] at hf; cases hf⟩
  · induction h with
    | nil => exact .nil
    | cons h _ ih =>
      simp only [List.all_cons, Bool.and_eq_true] at hf
      exact .cons ⟨h, fun _ => hf.1⟩ (ih (by simp [hf.2]) hf.2)
theorem newRow_run {w : World} {e : TypeId} {cur : Array Value} : (newRow e cur).run P w = .ok ⟨w.heap.size, 0, none⟩ { w with heap := w.heap.push (.cells cur e) } := by simp [newRow]
/-- A variable of its own. -/
theorem new_ok {e : TypeId} {cs : List Value} (hf : (!flatT P 6 e || cs.all flat1) = true)
    (h : ∀ ν (a : Act) w, Env ν fr a o → Pre P F ν hp w → ∃ cur : Array Value, L2 (VR1 ν) cs cur.toList ∧ (execOp a.eval o).run P w = .ok (.value (.pointer (some ⟨w.heap.size, 0, none⟩))) { w with heap := w.heap.push (.cells cur e) }) :
    OpOk P F fr hp o ⟨.pointer (some ⟨hp.length, 0, none⟩), hp ++ [.own e cs], []⟩ := by
  refine ⟨Shape.new, fun ν a w he hpre next Q hn => ?_⟩
  obtain ⟨cur, h1, h2⟩ := h ν a w he hpre
  have hlen : cs.length = cur.size := by simpa using h1.len
  have htk : cur.toList.take cs.length = cur.toList := List.take_of_length_le (by simp; omega)
  refine wp_value h2 (hn _ _ _ (Post.new (w' := { w with heap := w.heap.push (.cells cur e) }) (cs := cs) (cur := cur) (lo := 0) (hi := 0) hpre rfl rfl rfl rfl (fun o _ hh => by omega) (by omega) (by rw [htk]; exact CR.of h1 hf) _) ?_)
  exact ⟨_, by unfold named; rw [if_pos rfl], rfl, rfl⟩
theorem alloc_sat {e : TypeId} (ho : o.op = .alloc e) : Sat ((lift (zeroT P e)).bind fun z => (chk (z.cells.toList.all flat1)).bind fun _ => newA P hp e z.cells.toList) (OpOk P F fr hp o) := by
  refine Sat.bind_lift fun z hz => Sat.bind_chk fun hz1 => ?_
  unfold newA
  refine Sat.bind_chk fun hf => Sat.ret _ (new_ok hf fun ν a w he _ => ⟨z.cells, (flat_L2 hz1).2 rfl, ?_⟩)
  simp [execOp, ho, Instr.alloc, run_zeroT hz, newVar, newRow_run]
theorem VR.toC {ν : Nu} {v v' : Value} (h : VR ν v v') (hl : lvlC v = true) : VRC ν v v' := by
  cases v with
  | tuple cs => cases hl
  | _ => simp only [VR] at h; exact h
theorem box_sat {e : TypeId} {x : Operand} (ho : o.op = .box e x) : Sat ((lift (val fr x)).bind fun v => (chk (lvlC v)).bind fun _ => newA P hp e v.cells.toList) (OpOk P F fr hp o) := by
  refine Sat.bind_lift fun v hv => Sat.bind_chk fun hl => ?_
  unfold newA
  refine Sat.bind_chk fun hf => Sat.ret _ (new_ok hf fun ν a w he _ => ⟨(a.eval x).cells, ((he x (by simp [ho, Op.operands]) _ hv).toC hl).cells, ?_⟩)
  simp [execOp, ho, Instr.box, newVar, newRow_run]
theorem named_slice {ν : Nu} {n g len cap cap' S u : Nat} (h1 : cap ≤ cap') (h2 : len ≤ cap') (h3 : cap' * u = S) : VR (named ν n ⟨g, 0, S, u⟩) (.slice (some ⟨n, 0, none⟩) len cap) (.slice (some ⟨g, 0, none⟩) len cap') :=
  ⟨_, _, rfl, h1, h2, fun _ => ⟨⟨g, 0, S, u⟩, by unfold named; rw [if_pos rfl], rfl, rfl, by simpa using h3⟩⟩
theorem zeros_eq (z : Array Value) (h0 : 0 < z.size) : ∀ len, ((List.range (len * z.size)).map fun i => z[i % z.size]!) = zeros z.toList len
  | 0 => by simp [zeros]
  | len + 1 => by
    rw [show (len + 1) * z.size = z.size + len * z.size by rw [Nat.add_mul]; omega, List.range_add, List.map_append, zeros, ← zeros_eq z h0 len]
    congr 1
    · apply List.ext_getElem
      · simp
      · intro i h1 h2
        simp at h1
        simp [Nat.mod_eq_of_lt h1, h1]
    · rw [List.map_map]
      apply List.map_congr_left
      intro i _
      simp
theorem zeros_flat {z : List Value} (h : z.all flat1 = true) : ∀ n, (zeros z n).all flat1 = true
  | 0 => rfl
  | n + 1 => by rw [zeros, List.all_append, h, zeros_flat h n]; rfl
theorem zeros_len {z : List Value} : ∀ n, (zeros z n).length = n * z.length
  | 0 => by simp [zeros]
  | n + 1 => by rw [zeros, List.length_append, zeros_len n, Nat.add_mul]; omega
theorem fold_size : ∀ (vs : List (Value × Nat)) (off : Nat) (cells : Array Value), (vs.foldl (fun cs x => cs.setIfInBounds (off + x.2) x.1) cells).size = cells.size
  | [], _, _ => rfl
  | v :: vs, off, cells => by rw [List.foldl_cons, fold_size vs off]; simp
theorem fill_size {pl : Nat → Option (Nat × Nat)} : ∀ {ps : List (Nat × Value)} {cells r : Array Value}, Instr.fill pl cells ps = some r → r.size = cells.size
  | [], cells, r, h => by cases h; rfl
  | (i, v) :: ps, cells, r, h => by
    unfold Instr.fill at h
    split at h
    · cases h
    · split at h
      · cases h
      · rw [fill_size h, ← Array.foldl_toList]
        exact fold_size _ _ _
theorem buildSlice_sat {t : TypeId} {len : Nat} {ps : Array (Nat × Operand)} (ho : o.op = .buildSlice t len ps) :
    Sat ((lift (parts fr ps.toList)).bind fun ps => (chk (ps.all fun p => lvlC p.2)).bind fun _ => buildSliceA P hp t len ps) (OpOk P F fr hp o) := by
  refine Sat.bind_lift fun vs hvs => Sat.bind_chk fun hlv => ?_
  have eP : ∀ ν (a : Act), Env ν fr a o → L2 (fun p q => p.1 = q.1 ∧ VRC ν p.2 q.2) vs (ps.toList.map fun p => (p.1, a.eval p.2)) := fun ν a he =>
    parts_ok hvs (fun x hx v hv => he x (by simp only [ho, Op.operands]; simpa using hx) v hv) hlv
  unfold buildSliceA
  split
  · rename_i e hd
    refine Sat.bind_lift fun n hn => Sat.bind_lift fun z hz => Sat.bind_chk fun hc => ?_
    simp only [Bool.and_eq_true, beq_iff_eq, decide_eq_true_eq] at hc
    obtain ⟨⟨⟨hmx, hzs⟩, h0⟩, hzf⟩ := hc
    intro o' r he' hg
    have key : Sat ((fillA (fun i => some (i * n, n)) (zeros z.cells.toList len) vs).bind fun cs => (chk (!flatT P 6 e || cs.all flat1)).bind fun _ => ret (⟨.slice (some ⟨hp.length, 0, none⟩) len len, hp ++ [.own e cs], []⟩ : Res))
        fun r => ∃ cs, r = ⟨.slice (some ⟨hp.length, 0, none⟩) len len, hp ++ [.own e cs], []⟩ ∧ (!flatT P 6 e || cs.all flat1) = true ∧ ∀ ν (a : Act), Env ν fr a o →
          ∃ r', Instr.fill (fun i => some (i * n, n)) (zeros z.cells.toList len).toArray (ps.toList.map fun p => (p.1, a.eval p.2)) = some r' ∧ L2 (VR1 ν) cs r'.toList := by
      refine Sat.bind (R := fun cs => ∀ ν (a : Act), Env ν fr a o → ∃ r', Instr.fill (fun i => some (i * n, n)) (zeros z.cells.toList len).toArray (ps.toList.map fun p => (p.1, a.eval p.2)) = some r' ∧ L2 (VR1 ν) cs r'.toList) ?_ fun cs hcs => Sat.bind_chk fun hf => Sat.ret _ ⟨cs, rfl, hf, hcs⟩
      intro o1 r1 h1 g1 ν a he
      exact fill_ok (ν := ν) (eP ν a he) ((flat_L2 (zeros_flat hzf len)).2 rfl) o1 r1 h1 g1
    obtain ⟨cs, hr, hf, hfill⟩ := key o' r he' hg
    rw [hr]
    refine ⟨Shape.new, fun ν a w he hpre next Q hnx => ?_⟩
    obtain ⟨cur, h1, h2⟩ := hfill ν a he
    have hcs : cur.size = len * n := by
      rw [fill_size h1]
      simp [zeros_len, hzs]
    have hlen : cs.length = cur.size := by simpa using h2.len
    have htk : cur.toList.take cs.length = cur.toList := List.take_of_length_le (by simp; omega)
    have e1 : (ps.map fun x => (x.1, a.eval x.2)).toList = ps.toList.map fun p => (p.1, a.eval p.2) := by simp
    have hrow : ∀ zr : Array Value, (len * n ≠ 0 → zr = z.cells) → ((Array.range (len * n)).map fun i => zr[i % zr.size]!) = (zeros z.cells.toList len).toArray := by
      intro zr hzr
      apply Array.toList_inj.1
      by_cases c : len * n = 0
      · have : len = 0 := by rcases Nat.mul_eq_zero.1 c with h | h <;> omega
        subst this
        simp [zeros]
      · rw [hzr c]
        have := zeros_eq z.cells (by omega) len
        rw [hzs] at this
        simpa [hzs] using this
    have hrun : (execOp a.eval o).run P w = .ok (.value (.slice (some ⟨w.heap.size, 0, none⟩) len len)) { w with heap := w.heap.push (.cells cur e) } := by
      by_cases c : len * n = 0
      · have hr0 := hrow #[] (fun h => absurd c h)
        simp only [execOp, ho, Instr.buildSlice, Sem.run_bind, run_und hd, Result.andThen_ok, run_sz hn, e1]
        rw [if_neg (by omega), if_pos c]
        simp only [Sem.run_bind, Sem.run_pure, Result.andThen_ok, hr0, h1, newRow_run]
      · have hr0 := hrow z.cells (fun _ => rfl)
        simp only [execOp, ho, Instr.buildSlice, Sem.run_bind, run_und hd, Result.andThen_ok, run_sz hn, e1]
        rw [if_neg (by omega), if_neg c]
        simp only [Sem.run_bind, Sem.run_pure, Result.andThen_ok, run_zeroT hz, hr0, h1, newRow_run]
    refine wp_value hrun (hnx _ _ _ (Post.new (w' := { w with heap := w.heap.push (.cells cur e) }) (cs := cs) (cur := cur) (lo := 0) (hi := 0) hpre rfl rfl rfl rfl (fun o _ hh => by omega) (by omega) (by rw [htk]; exact CR.of h2 hf) _) ?_)
    exact named_slice (Nat.le_refl _) (Nat.le_refl _) (by rw [hn, hcs]; rfl)
  · exact Sat.stop
theorem makeSlice_sat {t : TypeId} {x y : Operand} (ho : o.op = .makeSlice t x y) :
    Sat ((lift (val fr x)).bind fun l => (lift (val fr y)).bind fun c => makeSliceA P hp t l c) (OpOk P F fr hp o) := by
  refine Sat.bind_lift fun lv hl => Sat.bind_lift fun cv hcv => ?_
  unfold makeSliceA
  split
  · rename_i e k l k' c hd
    refine Sat.bind_lift fun i hi => Sat.bind_lift fun z hz => Sat.bind_chk fun hc => ?_
    simp only [Bool.and_eq_true, beq_iff_eq, decide_eq_true_eq, most] at hc
    obtain ⟨⟨⟨⟨⟨⟨h1, h2⟩, h3⟩, h4⟩, hzs⟩, h0⟩, hzf⟩ := hc
    replace h3 : c * (i.bytes : Int) ≤ 140737488351232 := of_decide_eq_true h3
    replace h4 : c ≤ 140737488351232 := of_decide_eq_true h4
    refine Sat.ret _ ⟨Shape.new, fun ν a w he hpre next Q hnx => ?_⟩
    have hs : sz P e = some i.size := by unfold sz; rw [hi]; rfl
    have hzt : zeroT P e = some z := by unfold zeroT; rw [hi]; exact hz
    have ex : a.eval x = .int k l := he x (by simp [ho, Op.operands]) _ hl
    have ey : a.eval y = .int k' c := he y (by simp [ho, Op.operands]) _ hcv
    have wl : IntKind.i64.wrap l = l := by
      have hb : IntKind.i64.bits = 64 := rfl
      have hsg : IntKind.i64.signed = true := rfl
      unfold IntKind.wrap
      rw [hb, hsg]
      simp
      rw [if_neg (by omega)]
      omega
    have wc : IntKind.i64.wrap c = c := by
      have hb : IntKind.i64.bits = 64 := rfl
      have hsg : IntKind.i64.signed = true := rfl
      unfold IntKind.wrap
      rw [hb, hsg]
      simp
      rw [if_neg (by omega)]
      omega
    have hrow : ∀ zr : Array Value, (c.toNat * i.size ≠ 0 → zr = z.cells) → ((Array.range (c.toNat * i.size)).map fun j => zr[j % zr.size]!) = (zeros z.cells.toList c.toNat).toArray := by
      intro zr hzr
      apply Array.toList_inj.1
      by_cases hc0 : c.toNat * i.size = 0
      · have : c.toNat = 0 := by rcases Nat.mul_eq_zero.1 hc0 with h | h <;> omega
        rw [this]
        simp [zeros]
      · rw [hzr hc0]
        have := zeros_eq z.cells (by omega) c.toNat
        rw [hzs] at this
        simpa [hzs] using this
    have hmul : (i.bytes : Int) * c ≤ 140737488351232 := by rw [Int.mul_comm]; exact h3
    have hrun : (execOp a.eval o).run P w = .ok (.value (.slice (some ⟨w.heap.size, 0, none⟩) l.toNat c.toNat)) { w with heap := w.heap.push (.cells (zeros z.cells.toList c.toNat).toArray e) } := by
      have hti : (typeInfo e).run P w = .ok i w := by simp [typeInfo, hi]
      simp only [execOp, ho, ex, ey, Instr.makeSlice, asInt, asIntOf, Sem.run_bind, run_und hd, Result.andThen_ok, Sem.run_pure, hti, wl, wc, run_sz hs, run_askRoom]
      have e1 : (decide (c < 0) || decide ((i.bytes : Int) * c > 2 ^ 48)) = false := by simp; omega
      have e2 : decide (l < 0) = false := by simp; omega
      have e3 : decide (l > c) = false := by simp; omega
      simp only [e1, e2, e3, Bool.or_false, Bool.false_eq_true, if_false, Sem.run_bind, Sem.run_pure, Result.andThen_ok, run_askRoom, run_sz hs]
      by_cases hc0 : c.toNat * i.size = 0
      · rw [if_pos hc0]
        simp only [Sem.run_bind, Sem.run_pure, Result.andThen_ok, hrow #[] (fun h => absurd hc0 h), newRow_run]
      · rw [if_neg hc0]
        simp only [Sem.run_bind, Sem.run_pure, Result.andThen_ok, run_zeroT hzt, hrow z.cells (fun _ => rfl), newRow_run]
    have hcl : (zeros z.cells.toList c.toNat).toArray.size = c.toNat * i.size := by simp [zeros_len, hzs]
    refine wp_value hrun (hnx _ _ _ (Post.new (w' := { w with heap := w.heap.push (.cells (zeros z.cells.toList c.toNat).toArray e) }) (cs := zeros z.cells.toList c.toNat) (cur := (zeros z.cells.toList c.toNat).toArray) (lo := 0) (hi := 0) hpre rfl rfl rfl rfl (fun o _ hh => by omega) (by simp) (by
      rw [List.take_of_length_le (by simp)]
      exact CR.of ((flat_L2 (zeros_flat hzf _)).2 rfl) (by rw [zeros_flat hzf]; simp)) _) ?_)
    exact named_slice (Nat.le_refl _) (by omega) (by rw [hs, hcl]; rfl)
  · exact Sat.stop
end
end Go.Proofs.Ytfjlaplhglfcaaa.Ex
