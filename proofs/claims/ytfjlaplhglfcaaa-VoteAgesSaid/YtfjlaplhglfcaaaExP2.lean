/- What is no more needed may be forgotten. -/
import Derived.Test.YtfjlaplhglfcaaaExP
namespace Go.Proofs.Ytfjlaplhglfcaaa.Ex
open Go
set_option linter.unusedVariables false
set_option linter.unusedSimpArgs false
section
variable {P : Program} {fr : Fr} {hp : Hp} {m : Nat}
/-- Only what is led to is kept. -/
theorem Inv.weaken {ids : List Nat} {w0 : World} {ν0 : Nu} {m : Nat} {ν : Nu} {wr : List Nat} {w : World} {hp2 : Hp} (hnd : ids.Nodup) (htk : ids.take m = List.range m)
    (hs : mapL (fun b => renB P (posIn ids) (hp.getD b .dead)) ids = some hp2) (h : Inv P w0 ν0 m ν hp wr w) :
    Kept (posIn ids) ν (fun j => (ids[j]?).bind ν) ∧ Inv P w0 ν0 m (fun j => (ids[j]?).bind ν) hp2 (wr.filter (· < m)) w := by
  have hsl := (mapL_L2 hs).len
  have hsub : ∀ j id, ids[j]? = some id → renB P (posIn ids) (hp.getD id .dead) = some (hp2.getD j .dead) := fun j id hj => by
    obtain ⟨b, k1, k2⟩ := (mapL_L2 hs).get j id hj
    rw [getD_of k1]
    exact k2
  have hids : ∀ j, j < ids.length → ∃ id, ids[j]? = some id := fun j hj => ⟨ids[j], by simp [hj]⟩
  have hidlt : ∀ j id, ids[j]? = some id → j < ids.length := fun j id hj => by
    rcases Nat.lt_or_ge j ids.length with h | h
    · exact h
    · rw [List.getElem?_eq_none h] at hj; cases hj
  have hinj : ∀ i j id, ids[i]? = some id → ids[j]? = some id → i = j := fun i j id hi hj => (List.getElem?_inj (hidlt i id hi) hnd).1 (hi.trans hj.symm)
  have hm : m ≤ ids.length := by
    have := congrArg List.length htk
    rw [List.length_take, List.length_range] at this
    omega
  have hfirst : ∀ j, j < m → ids[j]? = some j := fun j hj => by
    have h1 : (ids.take m)[j]? = some j := by rw [htk, List.getElem?_range hj]
    rw [List.getElem?_take, if_pos hj] at h1
    exact h1
  have e1 : ∀ (j id : Nat), ids[j]? = some id → (ids[j]?).bind ν = ν id := fun j id hj => by rw [hj]; rfl
  have hsub0 : ∀ j, ids.length ≤ j → hp2.getD j .dead = .dead := fun j hj => getD_out (by omega)
  have hk : Kept (posIn ids) ν (fun j => (ids[j]?).bind ν) := fun b j N hb hN => by
    show (ids[j]?).bind ν = _
    rw [e1 j b (posIn_some hb)]; exact hN
  refine ⟨hk, ⟨fun j hj => ?_, fun j => ?_, fun i j N K hij hi hj hN hK => ?_⟩, by omega, fun id hid => ?_, h.os, h.tape, h.output, h.size, fun g hg hfr => h.frame g hg fun id N hid hw hN => hfr id N hid (by simp [hw, hid]) hN, fun id N hid hl hN => ?_⟩
  · show (ids[j]?).bind ν = none
    rw [List.getElem?_eq_none (by omega)]
    rfl
  · rcases Nat.lt_or_ge j ids.length with hj | hj
    · obtain ⟨id, hid⟩ := hids j hj
      exact renB_ok hk (fun N hN => by show (ids[j]?).bind ν = _; rw [e1 j id hid]; exact hN) (hsub j id hid) (h.rep.blk id)
    · rw [hsub0 j hj]; trivial
  · have hi' : i < ids.length := by
      rcases Nat.lt_or_ge i ids.length with h | h
      · exact h
      · rw [hsub0 i h] at hi; cases hi
    have hj' : j < ids.length := by
      rcases Nat.lt_or_ge j ids.length with h | h
      · exact h
      · rw [hsub0 j h] at hj; cases hj
    obtain ⟨a, ha⟩ := hids i hi'
    obtain ⟨b, hb⟩ := hids j hj'
    rw [(renB_own (hsub i a ha)).1] at hi
    rw [(renB_own (hsub j b hb)).2] at hj
    replace hN : (ids[i]?).bind ν = some N := hN
    replace hK : (ids[j]?).bind ν = some K := hK
    rw [e1 i a ha] at hN
    rw [e1 j b hb] at hK
    exact h.rep.sep a b N K (fun e => hij (hinj i j a ha (by rw [e]; exact hb))) hi hj hN hK
  · show (ids[id]?).bind ν = _
    rw [e1 id id (hfirst id hid)]
    exact h.same id hid
  · rcases Nat.lt_or_ge id ids.length with hlt | hge
    · obtain ⟨b, hb⟩ := hids id hlt
      replace hN : (ids[id]?).bind ν = some N := hN
      rw [e1 id b hb] at hN
      rw [(renB_own (hsub id b hb)).2] at hl
      have hbm : m ≤ b := by
        rcases Nat.lt_or_ge b m with c | c
        · have := hinj id b b hb (hfirst b c)
          omega
        · exact c
      rcases h.fresh b N hbm hl hN with k | ⟨j, K, k1, k2, k3⟩
      · exact .inl k
      · exact .inr ⟨j, K, k1, by simp [k2, k1], k3⟩
    · rw [hsub0 id hge] at hl; cases hl
theorem Inv.wrs {w0 : World} {ν0 ν : Nu} {wr wr' : List Nat} {w : World} (h : Inv P w0 ν0 m ν hp wr w) (hw : ∀ j, j ∈ wr → j < m → j ∈ wr') : Inv P w0 ν0 m ν hp wr' w :=
  ⟨h.rep, h.len, h.same, h.os, h.tape, h.output, h.size, fun g hg hf => h.frame g hg fun id N hid hin hN => hf id N hid (hw id hin hid) hN, fun id N hid hl hN =>
    (h.fresh id N hid hl hN).imp (fun x => x) fun ⟨j, K, k1, k2, k3, k4⟩ => ⟨j, K, k1, hw j k2 k1, k3, k4⟩⟩
theorem keepT_get (fr : Fr) : ∀ (keep : List Nat) (t : Nat) (v : Value), (t, v) ∈ keepT fr keep → fr.get t = some v
  | [], t, v, h => by cases h
  | k :: r, t, v, h => by
    unfold keepT at h
    split at h
    · rename_i u hu
      rcases List.mem_cons.1 h with h | h
      · cases h; exact hu
      · exact keepT_get fr r t v h
    · exact keepT_get fr r t v h
theorem renF_ok {f : Nat → Option Nat} {ν ν1 : Nu} (hk : Kept f ν ν1) : ∀ {l l2 : List (Nat × Value)}, renF f l = some l2 → ∀ (t : Nat) v, (t, v) ∈ l2 → ∃ u, (t, u) ∈ l ∧ ∀ v', VR ν u v' → VR ν1 v v'
  | [], l2, h, t, v, hv => by
    simp only [renF, Option.some.injEq] at h
    subst h
    cases hv
  | (s, x) :: r, l2, h, t, v, hv => by
    simp only [renF] at h
    cases hx : ren f x with
    | none => rw [hx] at h; cases h
    | some x2 =>
      cases hr : renF f r with
      | none => rw [hx, hr] at h; cases h
      | some r2 =>
        rw [hx, hr] at h
        simp only [Option.map_some, Option.bind_some, Option.some.injEq] at h
        subst h
        rcases List.mem_cons.1 hv with hv | hv
        · cases hv
          exact ⟨x, List.mem_cons_self, fun v' hv' => ren_ok hk hx hv'⟩
        · obtain ⟨u, h1, h2⟩ := renF_ok hk hr t v hv
          exact ⟨u, List.mem_cons_of_mem _ h1, h2⟩
theorem tidy_inv {keep : List Nat} {o o2 : Out} (h : tidy P m keep o = some o2) : o2.ex = o.ex ∧ o2.wr = o.wr.filter (· < m) ∧
    ∀ {w0 : World} {ν0 ν : Nu} {wr : List Nat} {w : World} {tmps : Array Value}, Inv P w0 ν0 m ν o.hp wr w → FrRel ν o.fr tmps → ∃ ν', Inv P w0 ν0 m ν' o2.hp wr w ∧ FrRel ν' o2.fr tmps := by
  unfold tidy at h
  dsimp only at h
  revert h
  have hnd : (reach P o.hp deep (List.range m ++ frIds (keepT o.fr keep)) []).Nodup := reach_nodup _ _ _ (by simp)
  revert hnd
  generalize reach P o.hp deep (List.range m ++ frIds (keepT o.fr keep)) [] = ids
  intro hnd h
  cases hf : renF (posIn ids) (keepT o.fr keep) with
  | none => rw [hf] at h; cases h
  | some fr2 =>
    cases hs : mapL (fun b => renB P (posIn ids) (o.hp.getD b .dead)) ids with
    | none => rw [hf, hs] at h; cases h
    | some hp2 =>
      rw [hf, hs] at h
      simp only [Option.bind_some] at h
      split at h
      · rename_i htk
        cases h
        refine ⟨rfl, rfl, fun {w0 ν0 ν wr w tmps} hi hfr => ?_⟩
        obtain ⟨hk, hi2⟩ := Inv.weaken hnd htk hs hi
        refine ⟨_, hi2.wrs fun j hj _ => (List.mem_filter.1 hj).1, ?_⟩
        refine ⟨by rw [frOf_n]; exact hfr.1, fun t v hv => ?_⟩
        obtain ⟨u, k1, k2⟩ := renF_ok hk hf t v (frOf_get _ _ t v hv)
        obtain ⟨v', q1, q2⟩ := hfr.2 t u (keepT_get _ _ t u k1)
        exact ⟨v', q1, k2 v' q2⟩
      · cases h
end
end Go.Proofs.Ytfjlaplhglfcaaa.Ex
