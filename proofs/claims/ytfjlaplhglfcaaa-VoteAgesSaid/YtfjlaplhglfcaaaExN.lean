/- A call: the callee is run over what its arguments lead to. -/
import Derived.Test.YtfjlaplhglfcaaaExM
namespace Go.Proofs.Ytfjlaplhglfcaaa.Ex
open Go
set_option linter.unusedVariables false
set_option linter.unusedSimpArgs false
section
variable {P : Program} {F : List Nat} {fr : Fr} {hp : Hp} {o : Oper}
/-- What a call is told to do. -/
def CallOk (P : Program) (F : List Nat) (f : FuncId) (args : List Value) (hp : Hp) (r : Res) : Prop :=
  Shape F hp r ∧ ∀ ν w args', L2 (VR ν) args args' → Pre P F ν hp w → Calls P f args'.toArray w fun e w' => ∃ v' ν', e = .returned v' ∧ VR ν' r.v v' ∧ Post P F ν hp w r ν' w'
theorem L2.getD {α β : Type} {R : α → β → Prop} {l : List α} {m : List β} (h : L2 R l m) {i : Nat} {a : α} (ha : l[i]? = some a) : ∃ b, m[i]? = some b ∧ R a b := h.get i a ha
theorem getD_of {b : Blk} {l : Hp} {i : Nat} (h : l[i]? = some b) : l.getD i .dead = b := by rw [List.getD_eq_getElem?_getD, h]; rfl
theorem getD_app {l m : Hp} {i : Nat} (h : l.length ≤ i) : (l ++ m).getD i .dead = m.getD (i - l.length) .dead := by
  rw [List.getD_eq_getElem?_getD, List.getD_eq_getElem?_getD, List.getElem?_append_right h]
theorem getD_app_left {l m : Hp} {i : Nat} (h : i < l.length) : (l ++ m).getD i .dead = l.getD i .dead := by
  rw [List.getD_eq_getElem?_getD, List.getD_eq_getElem?_getD, List.getElem?_append_left h]
theorem call_sat {inl : CallF} {g : FuncId} {args : List Value} (hinl : ∀ args hp, Sat (inl g args hp) (CallSpec P g args hp)) (hF : ∀ id, id ∈ argIds P hp args → id ∈ F) :
    Sat (callA P inl g args hp) (CallOk P F g args hp) := by
  unfold callA
  refine Sat.bind_lift fun args1 ha => Sat.bind_lift fun sub hs => Sat.bind (hinl _ _) fun r hr => Sat.bind_chk fun hc => Sat.bind_lift fun v hv => Sat.bind_lift fun hp1 hs1 => Sat.bind_lift fun news hn => Sat.ret _ ?_
  simp only [Bool.and_eq_true, List.all_eq_true] at hc
  obtain ⟨hlen, hown⟩ := hc
  replace hlen := of_decide_eq_true hlen
  revert hF ha hs hv hs1 hn hlen
  have hnd : (argIds P hp args).Nodup := reach_nodup _ _ _ (by simp)
  revert hnd
  generalize argIds P hp args = ids
  intro hnd hF ha hs hv hs1 hn hlen
  have hsl := (mapL_L2 hs).len
  have hsub : ∀ j id, ids[j]? = some id → renB P (posIn ids) (hp.getD id .dead) = some (sub.getD j .dead) := fun j id hj => by
    obtain ⟨b, k1, k2⟩ := (mapL_L2 hs).get j id hj
    rw [getD_of k1]
    exact k2
  have hids : ∀ j, j < ids.length → ∃ id, ids[j]? = some id := fun j hj => ⟨ids[j], by simp [hj]⟩
  have hidlt : ∀ j id, ids[j]? = some id → j < ids.length := fun j id hj => by
    rcases Nat.lt_or_ge j ids.length with h | h
    · exact h
    · rw [List.getElem?_eq_none h] at hj; cases hj
  have hmem : ∀ j id, ids[j]? = some id → id ∈ F := fun j id hj => hF id (List.mem_of_getElem? hj)
  have hinj : ∀ i j id, ids[i]? = some id → ids[j]? = some id → i = j := fun i j id hi hj => by
    have h1 := hidlt i id hi
    have h2 := hidlt j id hj
    exact (List.getElem?_inj h1 hnd).1 (hi.trans hj.symm)
  have howj : ∀ j id, j ∈ r.wr → ids[j]? = some id → (hp.getD id .dead).isOwn = true := fun j id hj hi => by
    rw [← (renB_own (hsub j id hi)).1]
    exact hown j hj
  obtain ⟨hl1, hset⟩ := setAll_ok hs1 fun j b hj hb => own_lt (howj j b hj hb)
  have hwr : ∀ id, id ∈ r.wr.filterMap (fun j => ids[j]?) → ∃ j, j ∈ r.wr ∧ ids[j]? = some id := fun id hid => by
    obtain ⟨j, h1, h2⟩ := List.mem_filterMap.1 hid
    exact ⟨j, h1, h2⟩
  have hwrj : ∀ j id, j ∈ r.wr → ids[j]? = some id → id ∈ r.wr.filterMap (fun j => ids[j]?) := fun j id h1 h2 => List.mem_filterMap.2 ⟨j, h1, h2⟩
  have hnl := (mapL_L2 hn).len
  rw [List.length_drop] at hnl
  have hnew : ∀ id, hp.length ≤ id → (hp1 ++ news).getD id .dead = news.getD (id - hp.length) .dead := fun id hid => by
    rw [getD_app (by omega), hl1]
  have hold : ∀ id, id < hp.length → (hp1 ++ news).getD id .dead = hp1.getD id .dead := fun id hid => getD_app_left (by omega)
  have hnewB : ∀ k, k < news.length → renB P (backTo ids hp.length) (r.hp.getD (ids.length + k) .dead) = some (news.getD k .dead) := fun k hk => by
    obtain ⟨b, k1, k2⟩ := (mapL_L2 hn).get' k news[k] (by simp [hk])
    rw [List.getElem?_drop] at k1
    rw [getD_of k1, getD_of (i := k) (l := news) (b := news[k]) (by simp [hk])]
    exact k2
  refine ⟨⟨?_, fun id hid => ?_, fun id hid => ?_, fun id hid hnid => ?_⟩, fun ν w args' hargs hpre => ?_⟩
  · simp [hl1]
  · obtain ⟨j, h1, h2⟩ := hwr id hid
    exact ⟨hmem j id h2, own_lt (howj j id h1 h2)⟩
  · obtain ⟨j, h1, h2⟩ := hwr id hid
    exact howj j id h1 h2
  · show (hp1 ++ news).getD id .dead = _
    rw [hold id hid]
    rcases hset id with ⟨j, h1, h2, _⟩ | ⟨_, h2⟩
    · exact absurd (hwrj j id h1 h2) hnid
    · exact h2
  · let ν1 : Nu := fun j => (ids[j]?).bind ν
    have e1 : ∀ j id, ids[j]? = some id → ν1 j = ν id := fun j id hj => by show (ids[j]?).bind ν = _; rw [hj]; rfl
    have hk1 : Kept (posIn ids) ν ν1 := fun b j N hb hN => by rw [e1 j b (posIn_some hb)]; exact hN
    have hsub0 : ∀ j, ids.length ≤ j → sub.getD j .dead = .dead := fun j hj => getD_out (by omega)
    have rep : Rep P ν1 sub w := by
      refine ⟨fun j hj => ?_, fun j => ?_, fun i j N K hij hi hj hN hK => ?_⟩
      · show (ids[j]?).bind ν = none
        rw [List.getElem?_eq_none (by omega)]
        rfl
      · rcases Nat.lt_or_ge j ids.length with h | h
        · obtain ⟨id, hid⟩ := hids j h
          exact renB_ok hk1 (fun N hN => by rw [e1 j id hid]; exact hN) (hsub j id hid) (hpre.blk id (hmem j id hid))
        · rw [hsub0 j h]; trivial
      · have hi' : i < ids.length := by
          rcases Nat.lt_or_ge i ids.length with h | h
          · exact h
          · rw [hsub0 i h] at hi; cases hi
        have hj' : j < ids.length := by
          rcases Nat.lt_or_ge j ids.length with h | h
          · exact h
          · rw [hsub0 j h] at hj; cases hj
        obtain ⟨a, ha⟩ := hids i hi'
        obtain ⟨b, hb⟩ := hids j hj'
        rw [(renB_own (hsub i a ha)).1] at hi
        rw [(renB_own (hsub j b hb)).2] at hj
        rw [e1 i a ha] at hN
        rw [e1 j b hb] at hK
        exact hpre.sep a b N K (fun e => hij (hinj i j a ha (by rw [e]; exact hb))) (hmem i a ha) (hmem j b hb) hi hj hN hK
    refine (hr ν1 w args' ((mapL_L2 ha).via hargs fun _ _ _ h1 h2 => ren_ok hk1 h1 h2) rep).mono ?_
    rintro e w' ⟨v', ν', rfl, hvr, inv⟩
    have hm : sub.length = ids.length := hsl.symm
    let ν2 : Nu := fun id => if id < hp.length then ν id else ν' (ids.length + (id - hp.length))
    have o2 : ∀ id, id < hp.length → ν2 id = ν id := fun id h => if_pos h
    have n2 : ∀ id, hp.length ≤ id → ν2 id = ν' (ids.length + (id - hp.length)) := fun id h => if_neg (by omega)
    have hsame : ∀ j id, ids[j]? = some id → ν' j = ν id := fun j id hj => by
      rw [inv.same j (by rw [hm]; exact hidlt j id hj), e1 j id hj]
    have le2 : Le ν ν2 := fun id N hN => by
      rcases Nat.lt_or_ge id hp.length with h | h
      · rw [o2 id h]; exact hN
      · rw [hpre.dom id h] at hN; cases hN
    have hk2 : Kept (backTo ids hp.length) ν' ν2 := fun j id N hb hN => by
      unfold backTo at hb
      split at hb
      · rw [hsame j id hb] at hN
        exact le2 id N hN
      · cases hb
        rename_i hj
        rw [n2 _ (by omega), show ids.length + (hp.length + (j - ids.length) - hp.length) = j by omega]
        exact hN
    refine ⟨v', ν2, rfl, ren_ok hk2 hv hvr, ?_⟩
    -- what an old block is now
    have hq : ∀ id, id < hp.length → (∃ j, j ∈ r.wr ∧ ids[j]? = some id ∧ renB P (backTo ids hp.length) (r.hp.getD j .dead) = some ((hp1 ++ news).getD id .dead)) ∨ ((∀ j, j ∈ r.wr → ids[j]? ≠ some id) ∧ (hp1 ++ news).getD id .dead = hp.getD id .dead) := fun id h => by
      rw [hold id h]
      exact hset id
    have hnewq : ∀ id, hp.length ≤ id → (∃ k, id = hp.length + k ∧ renB P (backTo ids hp.length) (r.hp.getD (ids.length + k) .dead) = some ((hp1 ++ news).getD id .dead)) ∨ (hp1 ++ news).getD id .dead = .dead := fun id h => by
      rw [hnew id h]
      rcases Nat.lt_or_ge (id - hp.length) news.length with hk | hk
      · exact .inl ⟨id - hp.length, by omega, hnewB _ hk⟩
      · exact .inr (getD_out hk)
    have hwasown : ∀ id, id < hp.length → ((hp1 ++ news).getD id .dead).isOwn = true → (hp.getD id .dead).isOwn = true := fun id h ho => by
      rcases hq id h with ⟨j, h1, h2, _⟩ | ⟨_, h2⟩
      · exact howj j id h1 h2
      · rw [← h2]; exact ho
    have hwaslive : ∀ id, id < hp.length → ((hp1 ++ news).getD id .dead).live = true → (hp.getD id .dead).live = true := fun id h ho => by
      rcases hq id h with ⟨j, h1, h2, _⟩ | ⟨_, h2⟩
      · exact own_live (howj j id h1 h2)
      · rw [← h2]; exact ho
    have hfresh : ∀ k N, (r.hp.getD (ids.length + k) .dead).live = true → ν' (ids.length + k) = some N → w.heap.size ≤ N.g ∨ ∃ j id K, j ∈ r.wr ∧ ids[j]? = some id ∧ ν id = some K ∧ K.g = N.g := fun k N hl hN => by
      rcases inv.fresh (ids.length + k) N (by omega) hl hN with h | ⟨j, K, h1, h2, h3, h4⟩
      · exact .inl h
      · obtain ⟨id, hid⟩ := hids j (by omega)
        rw [e1 j id hid] at h3
        exact .inr ⟨j, id, K, h2, hid, h3, h4⟩
    -- an old block of one's own or in use and a new one
    have hcross : ∀ i k N K, i ∈ F → i < hp.length → ((hp1 ++ news).getD i .dead).live = true → (r.hp.getD (ids.length + k) .dead).live = true → (((hp1 ++ news).getD i .dead).isOwn = true ∨ (r.hp.getD (ids.length + k) .dead).isOwn = true) →
        ν i = some N → ν' (ids.length + k) = some K → N.g ≠ K.g := fun i k N K hiF hi hil hkl hoo hN hK => by
      rcases hfresh k K hkl hK with h | ⟨j, id, M, h1, h2, h3, h4⟩
      · have := (hpre.blk i hiF).lt (hwaslive i hi hil) hN
        omega
      · by_cases e : id = i
        · subst e
          rcases hq id hi with ⟨j', q1, q2, q3⟩ | ⟨q1, _⟩
          · have hjj := hinj j j' id h2 q2
            subst hjj
            have hne : j ≠ ids.length + k := by have := hidlt j id h2; omega
            have hN' : ν' j = some N := by rw [hsame j id h2]; exact hN
            rw [(renB_own q3).1] at hoo
            rw [(renB_own q3).2] at hil
            rcases hoo with ho | ho
            · exact inv.rep.sep j _ N K hne ho hkl hN' hK
            · exact fun e => inv.rep.sep _ j K N (fun e => hne e.symm) ho hil hK hN' e.symm
          · exact absurd h2 (q1 j h1)
        · rw [← h4]
          exact fun e2 => hpre.sep id i M N e (hmem j id h2) hiF (howj j id h1 h2) (hwaslive i hi hil) h3 hN e2.symm
    refine ⟨fun id h => o2 id h, fun id h => ?_, fun id h => ?_, fun i j N K hij hi hj hoi hlj hN hK => ?_, inv.os, inv.tape, inv.output, inv.size, fun g hg hfr => ?_, fun id N h hl hN => ?_⟩
    · have h' : (hp1 ++ news).length ≤ id := h
      rw [List.length_append] at h'
      rw [n2 id (by omega)]
      exact inv.rep.dom _ (by omega)
    · show RepBlk P ν2 w' id ((hp1 ++ news).getD id .dead)
      rcases Nat.lt_or_ge id hp.length with hlt | hge
      · have hidF : id ∈ F := h.resolve_right (by omega)
        rcases hq id hlt with ⟨j, h1, h2, h3⟩ | ⟨h1, h2⟩
        · exact renB_ok hk2 (fun N hN => by rw [hsame j id h2] at hN; exact le2 id N hN) h3 (inv.rep.blk j)
        · rw [h2]
          refine (hpre.blk id hidF).le le2 (fun N hN hl => inv.frame _ ((hpre.blk id hidF).lt hl hN) fun j M hj hjw hM => ?_) inv.size
          obtain ⟨b, hb⟩ := hids j (by omega)
          rw [e1 j b hb] at hM
          exact hpre.sep b id M N (fun e => h1 j hjw (by rw [← e]; exact hb)) (hmem j b hb) hidF (howj j b hjw hb) hl hM hN
      · rcases hnewq id hge with ⟨k, rfl, hk⟩ | hd
        · exact renB_ok hk2 (fun N hN => by rw [n2 _ (by omega), show ids.length + (hp.length + k - hp.length) = ids.length + k by omega]; exact hN) hk (inv.rep.blk _)
        · rw [hd]; trivial
    · replace hoi : ((hp1 ++ news).getD i .dead).isOwn = true := hoi
      replace hlj : ((hp1 ++ news).getD j .dead).live = true := hlj
      rcases Nat.lt_or_ge i hp.length with hi2 | hi2
      · have hiF : i ∈ F := hi.resolve_right (by omega)
        rw [o2 i hi2] at hN
        rcases Nat.lt_or_ge j hp.length with hj2 | hj2
        · have hjF : j ∈ F := hj.resolve_right (by omega)
          rw [o2 j hj2] at hK
          exact hpre.sep i j N K hij hiF hjF (hwasown i hi2 hoi) (hwaslive j hj2 hlj) hN hK
        · rcases hnewq j hj2 with ⟨k, rfl, hk⟩ | hd
          · rw [n2 _ hj2, show ids.length + (hp.length + k - hp.length) = ids.length + k by omega] at hK
            rw [(renB_own hk).2] at hlj
            exact hcross i k N K hiF hi2 (own_live hoi) hlj (.inl hoi) hN hK
          · rw [hd] at hlj; cases hlj
      · rcases hnewq i hi2 with ⟨k, rfl, hk⟩ | hd
        · rw [n2 _ hi2, show ids.length + (hp.length + k - hp.length) = ids.length + k by omega] at hN
          rw [(renB_own hk).1] at hoi
          rcases Nat.lt_or_ge j hp.length with hj2 | hj2
          · have hjF : j ∈ F := hj.resolve_right (by omega)
            rw [o2 j hj2] at hK
            exact fun e => hcross j k K N hjF hj2 hlj (own_live hoi) (.inr hoi) hK hN e.symm
          · rcases hnewq j hj2 with ⟨k', rfl, hk'⟩ | hd
            · rw [n2 _ hj2, show ids.length + (hp.length + k' - hp.length) = ids.length + k' by omega] at hK
              rw [(renB_own hk').2] at hlj
              exact inv.rep.sep _ _ N K (by omega) hoi hlj hN hK
            · rw [hd] at hlj; cases hlj
        · rw [hd] at hoi; cases hoi
    · refine inv.frame g hg fun j N hj hjw hN => ?_
      obtain ⟨b, hb⟩ := hids j (by omega)
      rw [e1 j b hb] at hN
      exact hfr b N (hwrj j b hjw hb) hN
    · replace hl : ((hp1 ++ news).getD id .dead).live = true := hl
      rcases hnewq id h with ⟨k, rfl, hk⟩ | hd
      · rw [n2 _ h, show ids.length + (hp.length + k - hp.length) = ids.length + k by omega] at hN
        rw [(renB_own hk).2] at hl
        rcases hfresh k N hl hN with h | ⟨j, b, K, h1, h2, h3, h4⟩
        · exact .inl h
        · exact .inr ⟨b, K, hwrj j b h1 h2, h3, h4⟩
      · rw [hd] at hl; cases hl
end
end Go.Proofs.Ytfjlaplhglfcaaa.Ex
