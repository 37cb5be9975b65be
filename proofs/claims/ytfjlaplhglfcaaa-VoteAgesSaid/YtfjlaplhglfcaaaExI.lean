/- What one operation does: writes, appends, copies. -/
import Derived.Test.YtfjlaplhglfcaaaExH
import Derived.Laws.Append
import Derived.Laws.World
namespace Go.Proofs.Ytfjlaplhglfcaaa.Ex
open Go
set_option linter.unusedVariables false
set_option linter.unusedSimpArgs false
section
variable {P : Program} {F : List Nat} {fr : Fr} {hp : Hp} {o : Oper}
theorem getD_set {b : Blk} {i : Nat} (id : Nat) (hi : i < hp.length) : (hp.set i b).getD id .dead = if id = i then b else hp.getD id .dead := by
  simp only [List.getD_eq_getElem?_getD, List.getElem?_set]
  by_cases c : i = id
  · subst c; simp [hi]
  · rw [if_neg c, if_neg (fun e => c e.symm)]
theorem own_lt {i : Nat} (h : (hp.getD i .dead).isOwn = true) : i < hp.length := by
  rcases Nat.lt_or_ge i hp.length with hlt | hge
  · exact hlt
  · rw [getD_out hge] at h; cases h
/-- A block written in place. -/
theorem Post.write {ν : Nu} {w w' : World} {b g S u : Nat} {e : TypeId} {cs cs' : List Value} {cur' : Array Value} {lo hi : Nat} (h : Pre P F ν hp w) (hF : b ∈ F) (hb : hp.getD b .dead = .own e cs) (hν : ν b = some ⟨g, 0, S, u⟩) (hS : cur'.size = S) (hu : u = (sz P e).getD 0)
    (hg : w'.heap[g]? = some (.cells cur' e (lo, hi))) (ho : ∀ k, k ≠ g → w'.heap[k]? = w.heap[k]?) (hs : w'.heap.size = w.heap.size) (h1 : w'.os = w.os) (h2 : w'.tape = w.tape) (h3 : w'.output = w.output)
    (hnf : ∀ o, o < cur'.size → ¬ (lo ≤ o ∧ o < hi)) (hl : cs'.length ≤ cur'.size) (hc : L2 (CR P ν e) cs' (cur'.toList.take cs'.length)) (v : Value) :
    Post P F ν hp w ⟨v, hp.set b (.own e cs'), [b]⟩ ν w' := by
  have hbo : (hp.getD b .dead).isOwn = true := by rw [hb]; rfl
  have hbl := own_lt hbo
  have st : ∀ id, (((hp.set b (Blk.own e cs')).getD id .dead).isOwn = true → (hp.getD id .dead).isOwn = true) ∧ (((hp.set b (Blk.own e cs')).getD id .dead).live = true → (hp.getD id .dead).live = true) := by
    intro id
    rw [getD_set id hbl]
    split
    · rename_i ei; subst ei; rw [hb]; exact ⟨fun _ => rfl, fun _ => rfl⟩
    · exact ⟨fun h => h, fun h => h⟩
  have outF : ∀ id, hp.length ≤ id → (hp.set b (Blk.own e cs')).getD id .dead = .dead := fun id hid => by rw [getD_set id hbl, if_neg (by omega), getD_out hid]
  refine ⟨fun _ _ => rfl, fun id hid => h.dom id (by simpa using hid), fun id hid => ?_, fun i j N K hne hi' hj' ho' hlv hN hK => ?_, h1, h2, h3, by omega, fun k hk hw => ?_, fun id N hid hlv _ => ?_⟩
  · show RepBlk P ν w' id ((hp.set b (Blk.own e cs')).getD id .dead)
    rw [getD_set id hbl]
    split
    · rename_i ei
      subst ei
      exact ⟨g, cur', lo, hi, by rw [hν, hS, hu], hg, hnf, hl, hc⟩
    · rename_i ei
      rcases hid with hid | hid
      · have hbk := h.blk id hid
        refine hbk.le (Le.refl ν) (fun N hN hlive => ho _ fun eg => ?_) (by omega)
        exact h.sep b id _ N (fun e => ei e.symm) hF hid hbo hlive hν hN eg.symm
      · rw [getD_out hid]; trivial
  · have ci := (st i).1 ho'
    have cj := (st j).2 hlv
    have hiF : i ∈ F := hi'.resolve_right (by have := own_lt ci; omega)
    have hjF : j ∈ F := by
      rcases hj' with hj | hj
      · exact hj
      · rw [getD_out hj] at cj; cases cj
    exact h.sep i j N K hne hiF hjF ci cj hN hK
  · exact ho k fun ek => hw b _ (List.mem_singleton.2 rfl) hν ek.symm
  · change ((hp.set b (Blk.own e cs')).getD id .dead).live = true at hlv
    rw [outF id hid] at hlv
    cases hlv
theorem Shape.write {v : Value} {b : Nat} {e : TypeId} {cs cs' : List Value} (hF : b ∈ F) (hb : hp.getD b .dead = .own e cs) : Shape F hp ⟨v, hp.set b (.own e cs'), [b]⟩ := by
  have hbo : (hp.getD b .dead).isOwn = true := by rw [hb]; rfl
  have hbl := own_lt hbo
  refine ⟨by simp, fun id hid => ?_, fun id hid => ?_, fun id hid hn => ?_⟩
  · rw [List.mem_singleton.1 hid]; exact ⟨hF, hbl⟩
  · rw [List.mem_singleton.1 hid]; exact hbo
  · show (hp.set b _).getD id .dead = _
    rw [getD_set id hbl, if_neg (fun e => hn (by rw [e]; exact List.mem_singleton.2 rfl))]
/-- A block given up, and another name for what became of it: the same block, or a new one. -/
theorem Post.moved {ν : Nu} {w w' : World} {b g g' S u : Nat} {e : TypeId} {cs cs' : List Value} {cur' : Array Value} {lo hi : Nat} (h : Pre P F ν hp w) (hF : b ∈ F) (hb : hp.getD b .dead = .own e cs) (hν : ν b = some ⟨g, 0, S, u⟩)
    (hg : w'.heap[g']? = some (.cells cur' e (lo, hi))) (hgg : g' = g ∨ w.heap.size ≤ g') (ho : ∀ k, k < w.heap.size → k ≠ g → w'.heap[k]? = w.heap[k]?) (hs : w.heap.size ≤ w'.heap.size) (h1 : w'.os = w.os) (h2 : w'.tape = w.tape) (h3 : w'.output = w.output)
    (hnf : ∀ o, o < cur'.size → ¬ (lo ≤ o ∧ o < hi)) (hl : cs'.length ≤ cur'.size) (hc : L2 (CR P ν e) cs' (cur'.toList.take cs'.length)) (v : Value) :
    Post P F ν hp w ⟨v, hp.set b .dead ++ [.own e cs'], [b]⟩ (named ν hp.length ⟨g', 0, cur'.size, (sz P e).getD 0⟩) w' := by
  have hbo : (hp.getD b .dead).isOwn = true := by rw [hb]; rfl
  have hbl := own_lt hbo
  have le : Le ν (named ν hp.length ⟨g', 0, cur'.size, (sz P e).getD 0⟩) := named_le (h.dom _ (Nat.le_refl _))
  have hgl : g < w.heap.size := by
    have := h.blk b hF
    rw [hb] at this
    exact this.lt rfl hν
  have gD : ∀ id, (hp.set b Blk.dead ++ [Blk.own e cs']).getD id .dead = if id = b then .dead else if id < hp.length then hp.getD id .dead else if id = hp.length then .own e cs' else .dead := by
    intro id
    rw [getD_snoc, List.length_set]
    by_cases c1 : id < hp.length
    · rw [if_pos c1, getD_set id hbl, if_pos c1]
    · rw [if_neg c1, if_neg c1]
      by_cases c2 : id = b
      · omega
      · rw [if_neg c2]
  have nN : ∀ k, k < hp.length → named ν hp.length ⟨g', 0, cur'.size, (sz P e).getD 0⟩ k = ν k := fun k hk => by unfold named; rw [if_neg (by omega)]
  have old : ∀ k M, k < hp.length → k ≠ b → (k ∈ F ∨ hp.length ≤ k) → (hp.getD k .dead).live = true → named ν hp.length ⟨g', 0, cur'.size, (sz P e).getD 0⟩ k = some M → ν k = some M ∧ M.g < w.heap.size ∧ k ∈ F ∧ M.g ≠ g := by
    intro k M hk hkb hkF hkl hM
    rw [nN k hk] at hM
    have hF' := hkF.resolve_right (by omega)
    exact ⟨hM, (h.blk k hF').lt hkl hM, hF', fun eg => h.sep b k _ M (fun e => hkb e.symm) hF hF' hbo hkl hν hM eg.symm⟩
  refine ⟨fun id hid => nN id hid, fun id hid => ?_, fun id hid => ?_, fun i j N K hne hi' hj' ho' hlv hN hK => ?_, h1, h2, h3, hs, fun k hk hw => ?_, fun id N hid hlv hN => ?_⟩
  · simp at hid
    unfold named
    rw [if_neg (by omega)]
    exact h.dom id (by omega)
  · show RepBlk P _ w' id ((hp.set b Blk.dead ++ [Blk.own e cs']).getD id .dead)
    rw [gD]
    split
    · trivial
    · rename_i cb
      split
      · rename_i c1
        have hF' : id ∈ F := hid.resolve_right (by omega)
        have hbk := h.blk id hF'
        refine hbk.le le (fun N hN hlive => ?_) hs
        exact ho _ (hbk.lt hlive hN) fun eg => h.sep b id _ N (fun e => cb e.symm) hF hF' hbo hlive hν hN eg.symm
      · split
        · rename_i c1 c2
          subst c2
          exact ⟨g', cur', lo, hi, by unfold named; rw [if_pos rfl], hg, hnf, hl, hc.mono fun _ _ => CR.le le⟩
        · trivial
  · change ((hp.set b Blk.dead ++ [Blk.own e cs']).getD i .dead).isOwn = true at ho'
    change ((hp.set b Blk.dead ++ [Blk.own e cs']).getD j .dead).live = true at hlv
    rw [gD] at ho' hlv
    have atNew : ∀ M, named ν hp.length ⟨g', 0, cur'.size, (sz P e).getD 0⟩ hp.length = some M → M.g = g' := fun M hM => by
      unfold named at hM
      rw [if_pos rfl] at hM
      cases hM
      rfl
    split at ho'
    · cases ho'
    · rename_i cib
      split at hlv
      · cases hlv
      · rename_i cjb
        split at ho'
        · rename_i ci
          obtain ⟨a1, a2, a3, a4⟩ := old i N ci cib hi' (own_live ho') hN
          split at hlv
          · rename_i cj
            obtain ⟨b1, b2, b3, b4⟩ := old j K cj cjb hj' hlv hK
            exact h.sep i j N K hne a3 b3 ho' hlv a1 b1
          · split at hlv
            · rename_i ej
              subst ej
              rw [atNew K hK]
              rcases hgg with hgg | hgg
              · rw [hgg]; exact a4
              · omega
            · cases hlv
        · split at ho'
          · rename_i ei
            subst ei
            rw [atNew N hN]
            split at hlv
            · rename_i cj
              obtain ⟨b1, b2, b3, b4⟩ := old j K cj cjb hj' hlv hK
              rcases hgg with hgg | hgg
              · rw [hgg]; exact fun e => b4 e.symm
              · omega
            · split at hlv
              · rename_i ej; exact absurd ej.symm hne
              · cases hlv
          · cases ho'
  · exact ho k hk fun ek => hw b _ (List.mem_singleton.2 rfl) hν ek.symm
  · change ((hp.set b Blk.dead ++ [Blk.own e cs']).getD id .dead).live = true at hlv
    rw [gD] at hlv
    split at hlv
    · cases hlv
    · split at hlv
      · omega
      · split at hlv
        · rename_i ei
          subst ei
          unfold named at hN
          rw [if_pos rfl] at hN
          cases hN
          rcases hgg with hgg | hgg
          · exact .inr ⟨b, _, List.mem_singleton.2 rfl, hν, hgg.symm⟩
          · exact .inl hgg
        · cases hlv
theorem Shape.moved {v : Value} {b : Nat} {e : TypeId} {cs cs' : List Value} (hF : b ∈ F) (hb : hp.getD b .dead = .own e cs) : Shape F hp ⟨v, hp.set b .dead ++ [.own e cs'], [b]⟩ := by
  have hbo : (hp.getD b .dead).isOwn = true := by rw [hb]; rfl
  have hbl := own_lt hbo
  refine ⟨by simp, fun id hid => ?_, fun id hid => ?_, fun id hid hn => ?_⟩
  · rw [List.mem_singleton.1 hid]; exact ⟨hF, hbl⟩
  · rw [List.mem_singleton.1 hid]; exact hbo
  · show (hp.set b .dead ++ [Blk.own e cs']).getD id .dead = _
    rw [getD_snoc, List.length_set, if_pos hid, getD_set id hbl, if_neg (fun e => hn (by rw [e]; exact List.mem_singleton.2 rfl))]
theorem VR1.one {ν : Nu} {v v' : Value} (h : VR1 ν v v') : v'.oneCell' = true := by
  cases v with
  | func fn f c => obtain ⟨_, _, rfl, _⟩ := h; rfl
  | pointer a => cases a with
    | none => cases h; rfl
    | some a => obtain ⟨_, _, _, rfl⟩ := h; rfl
  | slice a l c => cases a with
    | some a => obtain ⟨_, _, rfl, _⟩ := h; rfl
    | none => cases l <;> cases c <;> simp [VR1, VR0] at h; subst h; rfl
  | map r => cases r <;> simp [VR1, VR0] at h; subst h; rfl
  | bool b => cases h; rfl
  | int k n => cases h; rfl
  | string s => cases h; rfl
  | nilFunc => cases h; rfl
  | nilIface => cases h; rfl
  | _ => simp [VR1, VR0] at h
theorem L2.ones {ν : Nu} {l m : List Value} (h : L2 (VR1 ν) l m) : ∀ v ∈ m, v.oneCell' = true := by
  induction h with
  | nil => simp
  | cons h _ ih =>
    intro v hv
    rcases List.mem_cons.1 hv with rfl | hv
    · exact h.one
    · exact ih v hv
theorem setCell_heap {w : World} {g i : Nat} {cur : Array Value} {e : TypeId} {fz : Nat × Nat} {v : Value} (hg : w.heap[g]? = some (.cells cur e fz)) :
    (w.setCell ⟨g, i, none⟩ v).heap[g]? = some (.cells (cur.setIfInBounds i v) e fz) ∧ (∀ k, k ≠ g → (w.setCell ⟨g, i, none⟩ v).heap[k]? = w.heap[k]?) ∧ (w.setCell ⟨g, i, none⟩ v).heap.size = w.heap.size := by
  refine ⟨?_, fun k hk => ?_, ?_⟩
  · simp [World.setCell, Array.getElem?_modify, hg]
  · have hne : ¬ g = k := fun e => hk e.symm
    simp [World.setCell, Array.getElem?_modify, hne]
  · simp [World.setCell]
theorem storeCells_run {g off : Nat} {e : TypeId} {fz : Nat × Nat} : ∀ (vs : List Value) (i : Nat) (cur : Array Value) (w : World), w.heap[g]? = some (.cells cur e fz) → off + i + vs.length ≤ cur.size →
    (∀ o, o < cur.size → ¬ (fz.1 ≤ o ∧ o < fz.2)) → (∀ v ∈ vs, v.oneCell' = true) → ∃ w', (storeCells ⟨g, off, none⟩ vs i).run P w = .ok () w' ∧ w'.heap[g]? = some (.cells (put cur.toList (off + i) vs).toArray e fz) ∧
      (∀ k, k ≠ g → w'.heap[k]? = w.heap[k]?) ∧ w'.heap.size = w.heap.size ∧ w'.os = w.os ∧ w'.tape = w.tape ∧ w'.output = w.output
  | [], i, cur, w, hg, _, _, _ => ⟨w, rfl, by simpa [put] using hg, fun _ _ => rfl, rfl, rfl, rfl, rfl⟩
  | v :: rest, i, cur, w, hg, hl, hnf, h1 => by
    have hi : off + i < cur.size := by simp at hl; omega
    have hadd : (⟨g, off, none⟩ : Addr).add i = ⟨g, off + i, none⟩ := by unfold Addr.add; split <;> simp_all
    have hcell : w.cell? ⟨g, off + i, none⟩ = some cur[off + i] := by simp [World.cell?, hg, hi]
    have hfro : w.frozen? ⟨g, off + i, none⟩ = false := by
      have := hnf _ hi
      obtain ⟨a, b⟩ := fz
      simp only [World.frozen?, hg]
      simp at this ⊢
      omega
    have hst : (store ((⟨g, off, none⟩ : Addr).add i) v).run P w = .ok () (w.setCell ⟨g, off + i, none⟩ v) := by
      rw [hadd, run_store P w _ v _ (h1 v (by simp)), hcell]
      simp [hfro]
    obtain ⟨s1, s2, s3⟩ := setCell_heap (i := off + i) (v := v) hg
    obtain ⟨w', k1, k2, k3, k4, k5, k6, k7⟩ := storeCells_run (off := off) rest (i + 1) (cur.setIfInBounds (off + i) v) (w.setCell ⟨g, off + i, none⟩ v) s1 (by simp at hl ⊢; omega) (by simpa using hnf) (fun x hx => h1 x (by simp [hx]))
    refine ⟨w', ?_, ?_, fun k hk => (k3 k hk).trans (s2 k hk), k4.trans s3, k5, k6, k7⟩
    · simp only [storeCells, Sem.run_bind, hst, Result.andThen_ok, k1]
    · rw [k2]
      simp [put, Nat.add_assoc]
theorem put_len : ∀ (vs cs : List Value) (o : Nat), (put cs o vs).length = cs.length
  | [], _, _ => rfl
  | v :: vs, cs, o => by rw [put, put_len vs]; simp
theorem put_take : ∀ (vs cs : List Value) (o n : Nat), o + vs.length ≤ n → (put cs o vs).take n = put (cs.take n) o vs
  | [], _, _, _, _ => rfl
  | v :: vs, cs, o, n, h => by
    simp only [List.length_cons] at h
    rw [put, put, put_take vs _ _ _ (by omega), List.take_set]
theorem wr_sat {b off : Nat} {vs : List Value} {fl : Bool} {v : Value} (hF : b ∈ F) (hk : ∀ hp', (∃ e cs, hp.getD b .dead = .own e cs ∧ off + vs.length ≤ cs.length ∧ (!flatT P 6 e || fl) = true ∧ hp' = hp.set b (.own e (put cs off vs))) → OpOk P F fr hp o ⟨v, hp', [b]⟩) :
    Sat ((wrN P hp b off fl vs).map fun hp => (⟨v, hp, [b]⟩ : Res)) (OpOk P F fr hp o) := by
  apply Sat.map
  unfold wrN
  split
  · rename_i e cs he
    refine Sat.bind_chk fun hc => Sat.ret _ (hk _ ⟨e, cs, he, ?_, ?_, rfl⟩)
    · simp only [Bool.and_eq_true, decide_eq_true_eq] at hc; exact hc.1
    · simp only [Bool.and_eq_true] at hc; exact hc.2
  · exact Sat.stop
/-- A write of related cells into a block of one's own: the run of 'storeCells', and what it leaves. -/
theorem write_ok {ν : Nu} {w : World} {b off : Nat} {e : TypeId} {cs vs vs' : List Value} (h : Pre P F ν hp w) (hF : b ∈ F) (hb : hp.getD b .dead = .own e cs) (hl : off + vs.length ≤ cs.length) (hv : L2 (CR P ν e) vs vs') (v : Value) :
    ∃ N w', ν b = some N ∧ (storeCells (N.at off) vs').run P w = .ok () w' ∧ Post P F ν hp w ⟨v, hp.set b (.own e (put cs off vs)), [b]⟩ ν w' := by
  have hbk := h.blk b hF
  rw [hb] at hbk
  obtain ⟨g, cur, lo, hi, h1, h2, h3, h4, h5⟩ := hbk
  have hvl := hv.len
  obtain ⟨w', k1, k2, k3, k4, k5, k6, k7⟩ := storeCells_run (P := P) (off := off) vs' 0 cur w h2 (by omega) h3 (L2.ones (hv.mono fun _ _ hh => hh.1))
  have hat : (⟨g, 0, cur.size, (sz P e).getD 0⟩ : Nm).at off = ⟨g, off, none⟩ := by simp [Nm.at]
  refine ⟨_, w', h1, by rw [hat]; exact k1, ?_⟩
  refine Post.write (cur' := (put cur.toList off vs').toArray) (lo := lo) (hi := hi) h hF hb h1 (by simp [put_len]) rfl (by simpa using k2) k3 k4 k5 k6 k7 (by simpa [put_len] using h3) (by simpa [put_len] using h4) ?_ v
  rw [put_len, List.toList_toArray, put_take _ _ _ _ (by omega)]
  have := L2.len h5
  have pl : ∀ {vs vs' : List Value} {cs cs' : List Value} (o : Nat), L2 (CR P ν e) vs vs' → L2 (CR P ν e) cs cs' → L2 (CR P ν e) (put cs o vs) (put cs' o vs') := fun o => put_L2 o
  exact pl off hv h5
theorem store_sat {t : TypeId} {x y : Operand} {av v : Value} (ho : o.op = .store t x y) (ha : val fr x = some av) (hv : val fr y = some v) (hF : ∀ id, id ∈ idsV av → id ∈ F) (hlv : lvlC v = true) : Sat (storeA P hp t av v) (OpOk P F fr hp o) := by
  unfold storeA
  split
  · rename_i b off
    have hbF : b ∈ F := hF b (by simp [idsV, idsVC, idsV1])
    refine Sat.bind_lift fun n hn => Sat.bind_chk fun hsz => wr_sat hbF ?_
    rintro hp' ⟨e, cs, he, hl, hf, rfl⟩
    refine ⟨Shape.write hbF he, fun ν a w henv hpre next Q hnx => ?_⟩
    obtain ⟨N0, h1, h2⟩ := VR.ptr (henv x (by simp [ho, Op.operands]) _ ha)
    have hcells := ((henv y (by simp [ho, Op.operands]) _ hv).toC hlv).cells
    have hcl := hcells.len
    obtain ⟨N, w', k1, k2, k3⟩ := write_ok (v := undef) hpre hbF he hl (CR.of hcells hf)
    rw [h1] at k1
    cases k1
    simp only [beq_iff_eq] at hsz
    have hsz' : (a.eval y).cells.size = n := by simp at hcl; omega
    have hrun : (execOp a.eval o).run P w = .ok .skip w' := by
      simp only [execOp, ho, h2, Instr.storeAt, Instr.sureAddr, storeVar, Sem.run_bind, Sem.run_pure, Result.andThen_ok, run_sz hn, hsz', ne_eq, not_true_eq_false, if_false, k2]
    exact wp_skip_ hrun (hnx ν undef w' k3 ⟨_, rfl, .nil⟩)
  · exact Sat.stop
end
end Go.Proofs.Ytfjlaplhglfcaaa.Ex
