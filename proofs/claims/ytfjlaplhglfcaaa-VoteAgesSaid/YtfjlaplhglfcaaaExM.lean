/- A call: renaming, and the callee's heap within the caller's. -/
import Derived.Test.YtfjlaplhglfcaaaExL
namespace Go.Proofs.Ytfjlaplhglfcaaa.Ex
open Go
set_option linter.unusedVariables false
set_option linter.unusedSimpArgs false
section
variable {P : Program} {F : List Nat} {fr : Fr} {hp : Hp} {o : Oper}
theorem mapL_L2 {α β : Type} {f : α → Option β} : ∀ {xs : List α} {ys : List β}, mapL f xs = some ys → L2 (fun x y => f x = some y) xs ys
  | [], ys, h => by cases h; exact .nil
  | x :: xs, ys, h => by
    unfold mapL at h
    cases hx : f x with
    | none => rw [hx] at h; cases h
    | some y =>
      cases hr : mapL f xs with
      | none => rw [hx, hr] at h; cases h
      | some r => rw [hx, hr] at h; cases h; exact .cons hx (mapL_L2 hr)
theorem L2.via {α β γ : Type} {R : α → β → Prop} {S : α → γ → Prop} {T : β → γ → Prop} {l : List α} {m : List β} {n : List γ} (h1 : L2 R l m) (h2 : L2 S l n) (h : ∀ a b c, R a b → S a c → T b c) : L2 T m n := by
  induction h1 generalizing n with
  | nil => cases h2; exact .nil
  | cons a _ ih => cases h2 with
    | cons b c => exact .cons (h _ _ _ a b) (ih c)
/-- What is renamed keeps its meaning. -/
def Kept (f : Nat → Option Nat) (ν ν1 : Nu) : Prop := ∀ b j N, f b = some j → ν b = some N → ν1 j = some N
section
variable {f : Nat → Option Nat} {ν ν1 : Nu}
theorem ren0_ok (hk : Kept f ν ν1) {v v1 v' : Value} (h : ren0 f v = some v1) (hv : VR0 ν v v') : VR0 ν1 v1 v' := by
  unfold ren0 at h
  split at h
  · rename_i a
    obtain ⟨N, h1, h2, h3⟩ := hv
    cases hf : f a.block with
    | none => rw [hf] at h; cases h
    | some j => rw [hf] at h; cases h; exact ⟨N, hk _ _ _ hf h1, h2, h3⟩
  · rename_i a l c
    obtain ⟨a', c', h1, h2, h3, h4⟩ := hv
    cases hf : f a.block with
    | none => rw [hf] at h; cases h
    | some j =>
      rw [hf] at h
      cases h
      refine ⟨a', c', h1, h2, h3, fun hc => ?_⟩
      obtain ⟨N, k1, k2⟩ := h4 hc
      exact ⟨N, hk _ _ _ hf k1, k2⟩
  · split at h
    · rename_i hf
      cases h
      cases v with
      | func fn a b => cases hv
      | pointer a => cases a with
        | none => exact hv
        | some a => cases hf
      | slice a l c => cases a with
        | some a => cases hf
        | none => cases l <;> cases c <;> first | exact hv | cases hf
      | map r => cases r <;> first | exact hv | cases hf
      | _ => first | exact hv | cases hf
    · cases h
theorem VR1.of0 {v v' : Value} (h : VR0 ν v v') : VR1 ν v v' := by
  cases v with
  | func fn a b => cases h
  | _ => exact h
theorem VRC.of1 {v v' : Value} (h : VR1 ν v v') : VRC ν v v' := by
  cases v with
  | agg cs => cases h
  | _ => exact h
theorem ren1_ok (hk : Kept f ν ν1) {v v1 v' : Value} (h : ren1 f v = some v1) (hv : VR1 ν v v') : VR1 ν1 v1 v' := by
  cases v with
  | func fn a b =>
    simp only [ren1] at h
    cases ha : mapL (ren0 f) a.toList with
    | none => rw [ha] at h; cases h
    | some a2 =>
      cases hb : mapL (ren0 f) b.toList with
      | none => rw [ha, hb] at h; cases h
      | some b2 =>
        rw [ha, hb] at h
        cases h
        obtain ⟨a', b', rfl, h1, h2⟩ := hv
        exact ⟨a', b', rfl, by simpa using (mapL_L2 ha).via h1 fun _ _ _ => ren0_ok hk, by simpa using (mapL_L2 hb).via h2 fun _ _ _ => ren0_ok hk⟩
  | _ => simp only [ren1] at h; exact VR1.of0 (ren0_ok hk h hv)
theorem renC_ok (hk : Kept f ν ν1) {v v1 v' : Value} (h : renC f v = some v1) (hv : VRC ν v v') : VRC ν1 v1 v' := by
  cases v with
  | agg cs =>
    simp only [renC] at h
    cases ha : mapL (ren1 f) cs.toList with
    | none => rw [ha] at h; cases h
    | some a2 =>
      rw [ha] at h
      cases h
      obtain ⟨c', rfl, h1⟩ := hv
      exact ⟨c', rfl, by simpa using (mapL_L2 ha).via h1 fun _ _ _ => ren1_ok hk⟩
  | _ => simp only [renC] at h; exact VRC.of1 (ren1_ok hk h hv)
theorem ren_ok (hk : Kept f ν ν1) {v v1 v' : Value} (h : ren f v = some v1) (hv : VR ν v v') : VR ν1 v1 v' := by
  cases v with
  | tuple cs =>
    simp only [ren] at h
    cases ha : mapL (renC f) cs.toList with
    | none => rw [ha] at h; cases h
    | some a2 =>
      rw [ha] at h
      cases h
      obtain ⟨c', rfl, h1⟩ := hv
      exact ⟨c', rfl, by simpa using (mapL_L2 ha).via h1 fun _ _ _ => renC_ok hk⟩
  | _ => simp only [ren] at h; exact VR.ofC (renC_ok hk h hv)
theorem CR.ren_flat {e : TypeId} {cs cs' : List Value} (hf : flatT P 6 e = true) (h : L2 (CR P ν e) cs cs') : L2 (CR P ν1 e) cs cs' :=
  h.mono fun v v' hh => ⟨(flat1_VR (hh.2 hf) v').2 ((flat1_VR (hh.2 hf) v').1 hh.1), hh.2⟩
theorem CR.ren_map {e : TypeId} (hk : Kept f ν ν1) {cs cs1 cs' : List Value} (hf : ¬ flatT P 6 e = true) (hm : mapL (ren1 f) cs = some cs1) (h : L2 (CR P ν e) cs cs') : L2 (CR P ν1 e) cs1 cs' :=
  (mapL_L2 hm).via h fun _ _ _ hr hh => ⟨ren1_ok hk hr hh.1, fun h => absurd h hf⟩
theorem renB_ok (hk : Kept f ν ν1) {w : World} {id j : Nat} (hj : ∀ N, ν id = some N → ν1 j = some N) {b b1 : Blk} (h : renB P f b = some b1) (hb : RepBlk P ν w id b) : RepBlk P ν1 w j b1 := by
  have one : ∀ {e : TypeId} {cs cs1 : List Value} {mk : List Value → Blk}, (if flatT P 6 e = true then some (mk cs) else (mapL (ren1 f) cs).map mk) = some b1 →
      ∃ cs1, b1 = mk cs1 ∧ cs1.length = cs.length ∧ ∀ cs', L2 (CR P ν e) cs cs' → L2 (CR P ν1 e) cs1 cs' := by
    intro e cs _ mk h
    split at h
    · rename_i hf
      cases h
      exact ⟨cs, rfl, rfl, fun cs' hc => CR.ren_flat hf hc⟩
    · rename_i hf
      cases hm : mapL (ren1 f) cs with
      | none => rw [hm] at h; cases h
      | some cs1 =>
        rw [hm] at h
        cases h
        exact ⟨cs1, rfl, (mapL_L2 hm).len.symm, fun cs' hc => CR.ren_map hk hf hm hc⟩
  cases b with
  | dead => cases h; trivial
  | own e cs =>
    obtain ⟨g, cur, lo, hi, h1, h2, h3, h4, h5⟩ := hb
    obtain ⟨cs1, rfl, hl, hc⟩ := one (cs1 := cs) (mk := Blk.own e) h
    exact ⟨g, cur, lo, hi, hj _ h1, h2, h3, by omega, by rw [hl]; exact hc _ h5⟩
  | ro e cs =>
    obtain ⟨N, h1, h3, h4, cs', h5, h6⟩ := hb
    obtain ⟨cs1, rfl, hl, hc⟩ := one (cs1 := cs) (mk := Blk.ro e) h
    exact ⟨N, hj _ h1, h3, h4, cs', hc _ h5, h6⟩
theorem renB_own {b b1 : Blk} (h : renB P f b = some b1) : b1.isOwn = b.isOwn ∧ b1.live = b.live := by
  cases b with
  | dead => cases h; exact ⟨rfl, rfl⟩
  | own e cs =>
    simp only [renB] at h
    split at h
    · cases h; exact ⟨rfl, rfl⟩
    · cases hm : mapL (ren1 f) cs with
      | none => rw [hm] at h; cases h
      | some c => rw [hm] at h; cases h; exact ⟨rfl, rfl⟩
  | ro e cs =>
    simp only [renB] at h
    split at h
    · cases h; exact ⟨rfl, rfl⟩
    · cases hm : mapL (ren1 f) cs with
      | none => rw [hm] at h; cases h
      | some c => rw [hm] at h; cases h; exact ⟨rfl, rfl⟩
end
theorem posIn_some : ∀ {ids : List Nat} {b j : Nat}, posIn ids b = some j → ids[j]? = some b
  | [], _, _, h => by cases h
  | x :: xs, b, j, h => by
    unfold posIn at h
    split at h
    · rename_i hx
      cases h
      simpa using hx
    · cases hp : posIn xs b with
      | none => rw [hp] at h; cases h
      | some k => rw [hp] at h; cases h; simpa using posIn_some hp
theorem reach_nodup : ∀ (n : Nat) (todo seen : List Nat), seen.Nodup → (reach P hp n todo seen).Nodup
  | 0, _, seen, h => h
  | n + 1, [], seen, h => h
  | n + 1, b :: r, seen, h => by
    unfold reach
    split
    · exact reach_nodup n _ _ h
    · rename_i hb
      refine reach_nodup n _ _ (List.nodup_append.2 ⟨h, by simp, fun a ha c hc => ?_⟩)
      rw [List.mem_singleton.1 hc]
      rintro rfl
      exact hb (by simpa using ha)
theorem setAll_ok {f : Nat → Option Nat} {ids : List Nat} {h2 : Hp} : ∀ {js : List Nat} {hp hp1 : Hp}, setAll P f ids h2 js hp = some hp1 → (∀ j b, j ∈ js → ids[j]? = some b → b < hp.length) → hp1.length = hp.length ∧
    ∀ id, (∃ j, j ∈ js ∧ ids[j]? = some id ∧ renB P f (h2.getD j .dead) = some (hp1.getD id .dead)) ∨ ((∀ j, j ∈ js → ids[j]? ≠ some id) ∧ hp1.getD id .dead = hp.getD id .dead)
  | [], hp, hp1, h, _ => by cases h; exact ⟨rfl, fun id => .inr ⟨fun j hj => by simp at hj, rfl⟩⟩
  | j :: r, hp, hp1, h, hlt => by
    unfold setAll at h
    cases hb : ids[j]? with
    | none => rw [hb] at h; cases h
    | some b =>
      cases hk : renB P f (h2.getD j .dead) with
      | none => rw [hb, hk] at h; cases h
      | some k =>
        rw [hb, hk] at h
        have hbl := hlt j b (by simp) hb
        obtain ⟨h1, h3⟩ := setAll_ok (js := r) (hp := hp.set b k) (hp1 := hp1) h (fun j' b' hj' hb' => by rw [List.length_set]; exact hlt j' b' (by simp [hj']) hb')
        refine ⟨by rw [h1, List.length_set], fun id => ?_⟩
        rcases h3 id with ⟨j', k1, k2, k3⟩ | ⟨k1, k2⟩
        · exact .inl ⟨j', by simp [k1], k2, k3⟩
        · rw [getD_set id hbl] at k2
          by_cases e : id = b
          · subst e
            rw [if_pos rfl] at k2
            exact .inl ⟨j, by simp, hb, by rw [k2]; exact hk⟩
          · rw [if_neg e] at k2
            refine .inr ⟨fun j' hj' => ?_, k2⟩
            rcases List.mem_cons.1 hj' with rfl | hj'
            · rw [hb]; intro h; cases h; exact e rfl
            · exact k1 j' hj'
end
end Go.Proofs.Ytfjlaplhglfcaaa.Ex
