/- Regions whose order is drawn: one more operation done, and where that leads. -/
import Derived.Test.YtfjlaplhglfcaaaExZ2
namespace Go.Proofs.Ytfjlaplhglfcaaa.Ex
open Go
set_option linter.unusedVariables false
set_option linter.unusedSimpArgs false
section
variable {P : Program} {ops : Array Oper} {f : Nat → Fr} {h : Nat → Hp} {s : Nat → Step} {S : Nat → Bool} {i : Nat} {o : Oper} {r : Res} {w0 : World} {ν0 ν : Nu} {m : Nat} {wx : List Nat} {a : Act} {w : World}
/-- The names after it. -/
def joined (ν ν1 : Nu) (l k : Nat) : Nu := fun id => if l ≤ id ∧ id < k then ν1 id else ν id
theorem Stand.step (N : Next P ops f h s S i o r) (st : Stand P ops f h s w0 ν0 m wx S ν a.tmps w) {ν1 : Nu} {v' : Value} {w' : World}
    (p : Post P (s i).rd (below ν (h i).length) (h i) w r ν1 w') (hv : VR ν1 r.v v') : Stand P ops f h s w0 ν0 m wx (more S i) (joined ν ν1 (h i).length (h (i + 1)).length) (a.put o.dst v').tmps w' := by
  have hLL : (h i).length ≤ (h (i + 1)).length := N.mono i (i + 1) (by omega) N.lt
  have h0L : (h 0).length ≤ (h i).length := N.mono 0 i (by omega) (Nat.le_of_lt N.lt)
  have jin : ∀ id, (h i).length ≤ id → id < (h (i + 1)).length → joined ν ν1 (h i).length (h (i + 1)).length id = ν1 id := fun id h1 h2 => if_pos ⟨h1, h2⟩
  have jout : ∀ id, ¬ ((h i).length ≤ id ∧ id < (h (i + 1)).length) → joined ν ν1 (h i).length (h (i + 1)).length id = ν id := fun id h1 => if_neg h1
  have e1 : below (joined ν ν1 (h i).length (h (i + 1)).length) (h (i + 1)).length = ν1 := by
    funext id
    rcases Nat.lt_or_ge id (h (i + 1)).length with c | c
    · rw [below_in c]
      rcases Nat.lt_or_ge id (h i).length with d | d
      · rw [jout id (by omega), p.same id d, below_in d]
      · exact jin id d c
    · rw [below_out c, p.dom id (by rw [← N.hp]; exact c)]
  have le : Le ν (joined ν ν1 (h i).length (h (i + 1)).length) := fun id M hM => by
    by_cases c : (h i).length ≤ id ∧ id < (h (i + 1)).length
    · rw [st.made i id N.lt N.notyet c.1 c.2] at hM; cases hM
    · rw [jout id c]; exact hM
  have leb : ∀ n, Le (below ν n) (below (joined ν ν1 (h i).length (h (i + 1)).length) n) := fun n id M hM => by
    unfold below at hM ⊢
    split at hM
    · rw [if_pos (by assumption)]; exact le id M hM
    · cases hM
  have hitq : ∀ id, hits (s i) id = true ↔ (id ∈ r.wr ∨ ((h i).length ≤ id ∧ id < (h (i + 1)).length)) := fun id => by
    unfold hits
    rw [N.wr, (N.rng i N.lt).1, (N.rng i N.lt).2]
    simp
  have hitn : ∀ id, hits (s i) id = false → ¬ id ∈ r.wr ∧ ¬ ((h i).length ≤ id ∧ id < (h (i + 1)).length) := fun id hid => by
    refine ⟨fun c => ?_, fun c => ?_⟩
    · rw [(hitq id).2 (.inl c)] at hid; cases hid
    · rw [(hitq id).2 (.inr c)] at hid; cases hid
  -- a written block, before
  have wown : ∀ j, j ∈ r.wr → (curB ops h s S j).2.isOwn = true ∧ j < (h i).length := fun j hj => by
    have hjF := (N.shape.wr j hj)
    rw [(N.blk hjF.1).2]
    exact ⟨N.shape.own j hj, hjF.2⟩
  have lt : ∀ id M, (curB ops h s S id).2.live = true → ν id = some M → below ν (h (curB ops h s S id).1).length id = some M → M.g < w.heap.size := fun id M hl _ hM => (st.blk id).lt hl hM
  have named : ∀ id M, (curB ops h s S id).2.live = true → ν id = some M → M.g < w.heap.size := fun id M hl hM => by
    have hb := st.blk id
    have : ∃ K, below ν (h (curB ops h s S id).1).length id = some K := by
      cases hk : (curB ops h s S id).2 with
      | dead => rw [hk] at hl; cases hl
      | own e cs => rw [hk] at hb; obtain ⟨g, cur, lo, hi, q, _⟩ := hb; exact ⟨_, q⟩
      | ro e cs => rw [hk] at hb; obtain ⟨K, q, _⟩ := hb; exact ⟨_, q⟩
    obtain ⟨K, hK⟩ := this
    have := below_le _ _ hK
    rw [hM] at this
    cases this
    exact hb.lt hl hK
  have bdone : ∀ id, hits (s i) id = true → (curB ops h s (more S i) id) = (i + 1, r.hp.getD id .dead) := fun id hid => by rw [N.blk_done hid, N.hp]
  have hitF : ∀ id, hits (s i) id = true → id ∈ (s i).rd ∨ (h i).length ≤ id := fun id hid => ((hitq id).1 hid).imp (fun c => (N.shape.wr id c).1) (fun c => c.1)
  have jhit : ∀ id, hits (s i) id = true → joined ν ν1 (h i).length (h (i + 1)).length id = ν1 id := fun id hid => by
    rcases (hitq id).1 hid with c | c
    · have := (wown id c).2
      rw [jout id (by omega), p.same id this, below_in this]
    · exact jin id c.1 c.2
  have cross : ∀ x y M K, hits (s i) x = true → hits (s i) y = false → (r.hp.getD x .dead).live = true → (curB ops h s S y).2.live = true → ν1 x = some M → ν y = some K → M.g ≠ K.g := fun x y M K hx hy hxl hyl hM hK => by
    rcases (hitq x).1 hx with c | c
    · have hw := wown x c
      rw [p.same x hw.2, below_in hw.2] at hM
      exact st.sep x y M K (fun e => (hitn y hy).1 (e ▸ c)) hw.1 hyl hM hK
    · rcases p.fresh x M c.1 hxl hM with q | ⟨j, J, q1, q2, q3⟩
      · have := named y K hyl hK
        omega
      · rw [← q3]
        exact st.sep j y J K (fun e => (hitn y hy).1 (e ▸ q1)) (wown j q1).1 hyl (below_le _ _ q2) hK
  refine ⟨by cases hd : o.dst <;> simp [Act.put, st.tlen], fun t v ht => ?_, fun id => ?_, fun id hid => ?_, fun k id hk hSk h1 h2 => ?_, fun x y M K hxy hox hly hM hK => ?_, st.len, fun id hid => ?_, p.os.trans st.os, p.tape.trans st.tape, p.output.trans st.output, Nat.le_trans st.size p.size, fun g hg hfr => ?_, fun id M hid hl hM => ?_⟩
  · by_cases hd : o.dst = some t
    · rw [N.tmp_done hd] at ht ⊢
      simp only [N.fr, hd, putT] at ht
      obtain ⟨hlt, ht⟩ := Fr.get_set _ ht
      cases ht
      refine ⟨v', ?_, by rw [e1]; exact hv⟩
      have : t < a.tmps.size := by rw [← st.tlen, ← N.flen]; exact hlt
      simp [Act.put, hd, this]
    · rw [N.tmp_other hd] at ht ⊢
      obtain ⟨u', h1, h2⟩ := st.tmp t v ht
      refine ⟨u', ?_, h2.le (leb _)⟩
      cases hx : o.dst with
      | none => exact h1
      | some d =>
        have hne : d ≠ t := fun e => hd (by rw [hx, e])
        simp only [Act.put]
        rw [Array.getElem?_setIfInBounds_ne hne]
        exact h1
  · cases hh : hits (s i) id with
    | true =>
      rw [bdone id hh, e1]
      exact p.blk id (hitF id hh)
    | false =>
      rw [N.blk_other hh]
      refine (st.blk id).le (leb _) (fun M hM hl => p.frame M.g ((st.blk id).lt hl hM) fun j J hj hJ => ?_) p.size
      exact st.sep j id J M (fun e => (hitn id hh).1 (e ▸ hj)) (wown j hj).1 hl (below_le _ _ hJ) (below_le _ _ hM)
  · have := N.mono (i + 1) ops.size N.lt (Nat.le_refl _)
    rw [jout id (by omega)]
    exact st.over id hid
  · have hki : k ≠ i := fun e => by rw [e] at hSk; simp [more] at hSk
    rw [more_ne hki] at hSk
    rw [jout id (fun c => by
      rcases Nat.lt_or_ge k i with d | d
      · have := N.mono (k + 1) i d (Nat.le_of_lt N.lt); omega
      · have := N.mono (i + 1) k (by omega) (Nat.le_of_lt hk); omega)]
    exact st.made k id hk hSk h1 h2
  · cases hx : hits (s i) x with
    | true =>
      rw [jhit x hx] at hM
      rw [bdone x hx] at hox
      cases hy : hits (s i) y with
      | true =>
        rw [jhit y hy] at hK
        rw [bdone y hy] at hly
        exact p.sep x y M K hxy (hitF x hx) (hitF y hy) hox hly hM hK
      | false =>
        rw [N.blk_other hy] at hly
        rw [jout y (hitn y hy).2] at hK
        exact cross x y M K hx hy (own_live hox) hly hM hK
    | false =>
      rw [N.blk_other hx] at hox
      rw [jout x (hitn x hx).2] at hM
      cases hy : hits (s i) y with
      | true =>
        rw [jhit y hy] at hK
        rw [bdone y hy] at hly
        exact fun e => cross y x K M hy hx hly (own_live hox) hK hM e.symm
      | false =>
        rw [N.blk_other hy] at hly
        rw [jout y (hitn y hy).2] at hK
        exact st.sep x y M K hxy hox hly hM hK
  · have := st.len
    rw [jout id (by omega)]
    exact st.same id hid
  · have up : ∀ j, (j ∈ wx ∨ ∃ k, k < ops.size ∧ S k = true ∧ j ∈ (s k).wr) → (j ∈ wx ∨ ∃ k, k < ops.size ∧ more S i k = true ∧ j ∈ (s k).wr) := fun j hj => hj.imp (fun x => x) fun ⟨k, k1, k2, k3⟩ => ⟨k, k1, by simp [more, k2], k3⟩
    have h1 := st.frame g hg fun id M hid hw hM => hfr id M hid (up id hw) hM
    rw [← h1]
    refine p.frame g (Nat.lt_of_lt_of_le hg st.size) fun j J hj hJ => ?_
    have hJ' := below_le _ _ hJ
    rcases Nat.lt_or_ge j m with c | c
    · rw [st.same j c] at hJ'
      exact hfr j J c (.inr ⟨i, N.lt, by simp [more], by rw [N.wr]; exact hj⟩) hJ'
    · rcases st.fresh j J c (own_live (wown j hj).1) hJ' with q | ⟨k, K, q1, q2, q3, q4⟩
      · omega
      · rw [← q4]
        exact hfr k K q1 (up k q2) q3
  · have up : ∀ j, (j ∈ wx ∨ ∃ k, k < ops.size ∧ S k = true ∧ j ∈ (s k).wr) → (j ∈ wx ∨ ∃ k, k < ops.size ∧ more S i k = true ∧ j ∈ (s k).wr) := fun j hj => hj.imp (fun x => x) fun ⟨k, k1, k2, k3⟩ => ⟨k, k1, by simp [more, k2], k3⟩
    have old : ∀ id M, m ≤ id → (curB ops h s S id).2.live = true → ν id = some M → w0.heap.size ≤ M.g ∨ ∃ j K, j < m ∧ (j ∈ wx ∨ ∃ k, k < ops.size ∧ more S i k = true ∧ j ∈ (s k).wr) ∧ ν0 j = some K ∧ K.g = M.g := fun id M hid hl hM =>
      (st.fresh id M hid hl hM).imp (fun x => x) fun ⟨j, K, q1, q2, q3⟩ => ⟨j, K, q1, up j q2, q3⟩
    cases hh : hits (s i) id with
    | false =>
      rw [N.blk_other hh] at hl
      rw [jout id (hitn id hh).2] at hM
      exact old id M hid hl hM
    | true =>
      rw [jhit id hh] at hM
      rw [bdone id hh] at hl
      rcases (hitq id).1 hh with c | c
      · have hw := wown id c
        rw [p.same id hw.2, below_in hw.2] at hM
        exact old id M hid (own_live hw.1) hM
      · rcases p.fresh id M c.1 hl hM with q | ⟨j, J, q1, q2, q3⟩
        · exact .inl (Nat.le_trans st.size q)
        · have hJ' := below_le _ _ q2
          rcases Nat.lt_or_ge j m with d | d
          · rw [st.same j d] at hJ'
            exact .inr ⟨j, J, d, .inr ⟨i, N.lt, by simp [more], by rw [N.wr]; exact q1⟩, hJ', q3⟩
          · rw [← q3]
            exact old j J d (own_live (wown j q1).1) hJ'
end
end Go.Proofs.Ytfjlaplhglfcaaa.Ex
