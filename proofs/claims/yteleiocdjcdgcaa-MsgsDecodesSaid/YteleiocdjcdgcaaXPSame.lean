/- Two messages are the same; the chapter's examples; a message written and read, and the other way round. -/
import Derived.Test.YteleiocdjcdgcaaXPDec
import Derived.Test.YteleiocdjcdgcaaXPRefEnc
import Derived.Test.YteleiocdjcdgcaaXx6
namespace Go.Proofs.Yteleiocdjcdgcaa.X
open Go.RowKit Go.Proofs.YteleiocdjcdgcaaW.PrintWords Go.Proofs.YteleiocdjcdgcaaW.PrintLast Go.Proofs.YteleiocdjcdgcaaW.PrintMore
set_option linter.unusedVariables false
set_option linter.unusedSimpArgs false
theorem same_loop (a b : Int) (l m : List Int) (hl : l.length = m.length) (hn : l.length ≤ 9223372036854775806) :
    ∀ (d i : Nat), i + d = l.length → Ev (fun k => windhoverref05_Same.l0 k (i : Int) a l b m) (decide (l.drop i = m.drop i)) := by
  intro d
  induction d with
  | zero =>
    intro i hi
    obtain rfl : i = l.length := by omega
    refine Ev.step (f := fun _ => some true) (fun k => ?_) ?_
    · simp only [windhoverref05_Same.l0]
      rw [if_neg (by omega)]
    · have : l.drop l.length = m.drop l.length := by rw [List.drop_length, hl, List.drop_length]
      rw [decide_eq_true this]
      exact Ev.now _
  | succ d ih =>
    intro i hi
    have hi1 : i < l.length := by omega
    have hi2 : i < m.length := by omega
    by_cases c : l[i] = m[i]
    · refine Ev.step (f := fun k => windhoverref05_Same.l0 k ((i + 1 : Nat) : Int) a l b m) (fun k => ?_) ?_
      · simp only [windhoverref05_Same.l0]
        rw [if_pos (by omega), if_pos (by omega), if_pos (by omega), rd_nat l i hi1, rd_nat m i hi2, if_pos c, wrap_succ i (by omega)]
      · have e : (l.drop i = m.drop i) ↔ (l.drop (i + 1) = m.drop (i + 1)) := by
          rw [List.drop_eq_getElem_cons hi1, List.drop_eq_getElem_cons hi2, List.cons.injEq]
          exact ⟨fun h => h.2, fun h => ⟨c, h⟩⟩
        have := ih (i + 1) (by omega)
        rwa [← decide_eq_decide.2 e] at this
    · refine Ev.step (f := fun _ => some false) (fun k => ?_) ?_
      · simp only [windhoverref05_Same.l0]
        rw [if_pos (by omega), if_pos (by omega), if_pos (by omega), rd_nat l i hi1, rd_nat m i hi2, if_neg c]
      · have e : ¬ (l.drop i = m.drop i) := by
          rw [List.drop_eq_getElem_cons hi1, List.drop_eq_getElem_cons hi2, List.cons.injEq]
          exact fun h => c h.1
        rw [decide_eq_false e]
        exact Ev.now _
theorem same_ev (a b : Int) (l m : List Int) (hn : l.length ≤ 9223372036854775806) : Ev (fun k => windhoverref05_Same.f k a l b m) (decide (a = b ∧ l = m)) := by
  by_cases c : a = b
  · by_cases hl : l.length = m.length
    · refine Ev.congr (f := fun k => windhoverref05_Same.j0 k false a l b m) (fun k => ?_) (Ev.step (f := fun k => windhoverref05_Same.l0 k ((0 : Nat) : Int) a l b m) (fun k => rfl) ?_)
      · unfold windhoverref05_Same.f
        rw [if_pos c, hl]
        simp
      · have := same_loop a b l m hl hn l.length 0 (by omega)
        rw [List.drop_zero, List.drop_zero] at this
        rw [decide_eq_decide.2 (show (a = b ∧ l = m) ↔ l = m from ⟨fun h => h.2, fun h => ⟨c, h⟩⟩)]
        exact this
    · refine Ev.congr (f := fun k => windhoverref05_Same.j0 k true a l b m) (fun k => ?_) (Ev.step (f := fun _ => some false) (fun k => rfl) ?_)
      · unfold windhoverref05_Same.f
        rw [if_pos c, show ((l.length : Int) != (m.length : Int)) = true by simp; omega]
      · rw [decide_eq_false (fun h => hl (by rw [h.2]))]
        exact Ev.now _
  · refine Ev.congr (f := fun k => windhoverref05_Same.j0 k true a l b m) (fun k => ?_) (Ev.step (f := fun _ => some false) (fun k => rfl) ?_)
    · unfold windhoverref05_Same.f
      rw [if_neg c]
    · rw [decide_eq_false (fun h => c h.1)]
      exact Ev.now _
theorem sameInts_loop (l m : List Int) (hl : l.length = m.length) (hn : l.length ≤ 9223372036854775806) :
    ∀ (d i : Nat), i + d = l.length → Ev (fun k => windhoverref00_SameInts.l0 k l m (i : Int)) (decide (l.drop i = m.drop i)) := by
  intro d
  induction d with
  | zero =>
    intro i hi
    obtain rfl : i = l.length := by omega
    refine Ev.step (f := fun _ => some true) (fun k => ?_) ?_
    · simp only [windhoverref00_SameInts.l0]
      rw [if_neg (by omega)]
    · have : l.drop l.length = m.drop l.length := by rw [List.drop_length, hl, List.drop_length]
      rw [decide_eq_true this]
      exact Ev.now _
  | succ d ih =>
    intro i hi
    have hi1 : i < l.length := by omega
    have hi2 : i < m.length := by omega
    by_cases c : l[i] = m[i]
    · refine Ev.step (f := fun k => windhoverref00_SameInts.l0 k l m ((i + 1 : Nat) : Int)) (fun k => ?_) ?_
      · simp only [windhoverref00_SameInts.l0]
        rw [if_pos (by omega), if_pos (by omega), if_pos (by omega), rd_nat l i hi1, rd_nat m i hi2, if_pos c, wrap_succ i (by omega)]
      · have e : (l.drop i = m.drop i) ↔ (l.drop (i + 1) = m.drop (i + 1)) := by
          rw [List.drop_eq_getElem_cons hi1, List.drop_eq_getElem_cons hi2, List.cons.injEq]
          exact ⟨fun h => h.2, fun h => ⟨c, h⟩⟩
        have := ih (i + 1) (by omega)
        rwa [← decide_eq_decide.2 e] at this
    · refine Ev.step (f := fun _ => some false) (fun k => ?_) ?_
      · simp only [windhoverref00_SameInts.l0]
        rw [if_pos (by omega), if_pos (by omega), if_pos (by omega), rd_nat l i hi1, rd_nat m i hi2, if_neg c]
      · have e : ¬ (l.drop i = m.drop i) := by
          rw [List.drop_eq_getElem_cons hi1, List.drop_eq_getElem_cons hi2, List.cons.injEq]
          exact fun h => c h.1
        rw [decide_eq_false e]
        exact Ev.now _
theorem sameInts_ev (l m : List Int) (hn : l.length ≤ 9223372036854775806) : Ev (fun k => windhoverref00_SameInts.f k l m) (decide (l = m)) := by
  by_cases hl : l.length = m.length
  · refine Ev.congr (f := fun k => windhoverref00_SameInts.l0 k l m ((0 : Nat) : Int)) (fun k => ?_) ?_
    · unfold windhoverref00_SameInts.f
      rw [if_pos (by omega)]
      rfl
    · have := sameInts_loop l m hl hn l.length 0 (by omega)
      rw [List.drop_zero, List.drop_zero] at this
      exact this
  · refine Ev.congr (f := fun _ => some false) (fun k => ?_) ?_
    · unfold windhoverref00_SameInts.f
      rw [if_neg (by omega)]
    · rw [decide_eq_false (fun h => hl (by rw [h]))]
      exact Ev.now _
theorem awake_ev : Ev (fun k => windhoverlaw05_awake.f k) true := Ev.of windhoverlaw05_awake.mono (k := 20) (by decide +kernel)
theorem enc_len (ws : List Int) : ∀ (fs bs : List Int), encL ws fs = some bs → bs.length ≤ 4 * ws.length := by
  induction ws with
  | nil => intro fs bs h; simp [encL] at h; subst h; simp
  | cons w ws ih =>
    intro fs bs h
    match fs with
    | [] => simp [encL] at h; subst h; simp
    | n :: fs =>
      simp only [encL] at h
      split at h
      · obtain ⟨t, ht, rfl⟩ := Option.map_eq_some_iff.1 h
        have := ih fs t ht
        have := nb_le w
        rw [List.length_append, le_length, List.length_cons]
        omega
      · cases h
theorem enc_range (ws : List Int) : ∀ (fs bs : List Int), encL ws fs = some bs → ∀ x ∈ bs, 0 ≤ x ∧ x ≤ 255 := by
  induction ws with
  | nil => intro fs bs h; simp [encL] at h; subst h; simp
  | cons w ws ih =>
    intro fs bs h
    match fs with
    | [] => simp [encL] at h; subst h; simp
    | n :: fs =>
      simp only [encL] at h
      split at h
      · obtain ⟨t, ht, rfl⟩ := Option.map_eq_some_iff.1 h
        intro x hx
        rcases List.mem_append.1 hx with hx | hx
        · exact le_range _ _ x hx
        · exact ih fs t ht x hx
      · cases h
/-- What is written with no error: the frame, and the bytes. -/
theorem encS_ok (seq kind : Int) (fields : List Int) (h : (encS seq kind fields).2.2.2 = 0) :
    ∃ bs, encL (widthsTab kind) fields = some bs ∧ (widthsTab kind).length = fields.length ∧ (widthsTab kind).length ≠ 0 ∧ 0 ≤ seq ∧ seq ≤ 255 ∧ encS seq kind fields = (seq, wrap64 kind, strOfNums bs, 0) := by
  unfold encS at *
  split at h
  · cases h
  · split at h
    · cases h
    · split at h
      · cases h
      · rcases he : encL (widthsTab kind) fields with _ | bs
        · rw [he] at h; cases h
        · refine ⟨bs, rfl, by omega, by omega, by omega, by omega, ?_⟩
          rw [if_neg (by omega), if_neg (by omega), if_neg (by omega)]
          rfl
theorem encS_err (seq kind : Int) (fields : List Int) (h : (encS seq kind fields).2.2.2 ≠ 0) :
    (encS seq kind fields).1 = 0 ∧ (encS seq kind fields).2.1 = 0 ∧ (encS seq kind fields).2.2.1 = ⟨#[]⟩ := by
  unfold encS at *
  split
  · exact ⟨rfl, rfl, rfl⟩
  · split
    · exact ⟨rfl, rfl, rfl⟩
    · split
      · exact ⟨rfl, rfl, rfl⟩
      · rename_i h1 h2 h3
        rw [if_neg h1, if_neg h2, if_neg h3] at h
        rcases he : encL (widthsTab kind) fields with _ | bs
        · exact ⟨rfl, rfl, rfl⟩
        · rw [he] at h
          exact absurd rfl h
theorem kind_in (kind : Int) (h : (widthsTab kind).length ≠ 0) : 1 ≤ kind ∧ kind ≤ 11 := by
  rcases Classical.em (kind < 1 ∨ 11 < kind) with h1 | h1
  · rw [tab_none kind h1] at h
    exact absurd rfl h
  · omega
theorem dec_of_enc (seq kind : Int) (fields bs : List Int) (he : encL (widthsTab kind) fields = some bs) (hl : (widthsTab kind).length = fields.length) (h0 : (widthsTab kind).length ≠ 0) :
    decS (wrap64 kind) (strOfNums bs) = (kind, fields, 0) := by
  have hk := kind_in kind h0
  have hw : wrap64 kind = kind := by unfold wrap64; omega
  unfold decS
  rw [hw, if_pos hk, B_nums bs (enc_range _ _ _ he), dec_enc _ _ _ (widths_W5 kind).1 hl.symm he]
  rfl
end Go.Proofs.Yteleiocdjcdgcaa.X
