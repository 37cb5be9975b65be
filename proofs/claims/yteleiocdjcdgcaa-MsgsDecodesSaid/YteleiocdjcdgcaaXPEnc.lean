/- What msgs.Encode answers, in plain words on lists. -/
import Derived.Test.YteleiocdjcdgcaaXPWrite
namespace Go.Proofs.Yteleiocdjcdgcaa.X
open Go.RowKit Go.Proofs.YteleiocdjcdgcaaW.PrintWords Go.Proofs.YteleiocdjcdgcaaW.PrintLast Go.Proofs.YteleiocdjcdgcaaW.PrintMore
set_option linter.unusedVariables false
set_option linter.unusedSimpArgs false
theorem rd_nat (l : List Int) (i : Nat) (h : i < l.length) : rd l (i : Int) = l[i] := by
  unfold rd
  rw [Int.toNat_natCast, List.getD_eq_getElem?_getD, List.getElem?_eq_getElem h]
  rfl
theorem wrap_succ (i : Nat) (h : i < 9223372036854775807) : wrap64 ((i : Int) + 1) = ((i + 1 : Nat) : Int) := by
  unfold wrap64
  omega
/-- The bytes of fields, where each may be what its width says. -/
def encL : List Int → List Int → Option (List Int)
  | w :: ws, n :: ns => if fitB n w = true then (encL ws ns).map (fun t => le (nb w) n ++ t) else none
  | _, _ => some []
def encR (seq kind : Int) (acc : List Int) : Option (List Int) → Int × Int × ByteArray × Int
  | none => (0, 0, ⟨#[]⟩, 5)
  | some bs => (seq, wrap64 kind, strOfNums (acc ++ bs), 0)
theorem le_length (m : Nat) (n : Int) : (le m n).length = m := by
  induction m generalizing n with
  | zero => rfl
  | succ m ih => simp [le, ih]
theorem nb_le (w : Int) : nb w ≤ 4 := by unfold nb; split <;> (try split) <;> omega
theorem enc_loop (seq kind : Int) (ws fields : List Int) (hW : ∀ w ∈ ws, W5 w) (hl : fields.length = ws.length) (hn : ws.length ≤ 20) :
    ∀ (d i : Nat) (acc : List Int), i + d = ws.length → acc.length ≤ 4 * i →
      Ev (fun k => msgs_Encode.l0 k seq acc ws (ws.length : Int) (i : Int) kind fields) (encR seq kind acc (encL (ws.drop i) (fields.drop i))) := by
  intro d
  induction d with
  | zero =>
    intro i acc hi ha
    obtain rfl : i = ws.length := by omega
    refine Ev.step (f := fun _ => some (seq, wrap64 kind, strOfNums acc, 0)) (fun k => ?_) ?_
    · simp only [msgs_Encode.l0]
      rw [if_neg (Int.lt_irrefl _)]
    · rw [List.drop_length]
      have : encL [] (fields.drop ws.length) = some [] := by simp [encL]
      rw [this]
      show Ev _ (seq, wrap64 kind, strOfNums (acc ++ []), 0)
      rw [List.append_nil]
      exact Ev.now _
  | succ d ih =>
    intro i acc hi ha
    have hi1 : i < ws.length := by omega
    have hi2 : i < fields.length := by omega
    have hw := hW ws[i] (List.getElem_mem hi1)
    rw [List.drop_eq_getElem_cons hi1, List.drop_eq_getElem_cons hi2]
    refine Ev.step (f := fun k => (msgs_write.f k acc fields[i] ws[i]).bind fun bt111 => (if bt111.2 = true then (msgs_Encode.l0 k seq bt111.1 ws (ws.length : Int) ((i + 1 : Nat) : Int) kind fields) else (some (0, 0, (⟨#[]⟩ : ByteArray), 5)))) (fun k => ?_) ?_
    · simp only [msgs_Encode.l0]
      rw [if_pos (by omega), if_pos (by omega), if_pos (by omega), if_pos (by omega), rd_nat ws i hi1, rd_nat fields i hi2, wrap_succ i (by omega)]
    · refine Ev.bind (write_ev acc fields[i] ws[i] (by omega) hw) ?_
      by_cases hf : fitB fields[i] ws[i] = true
      · simp only [hf, if_true, encL]
        have h4 := nb_le ws[i]
        have := ih (i + 1) (acc ++ le (nb ws[i]) fields[i]) (by omega) (by rw [List.length_append, le_length]; omega)
        rcases he : encL (ws.drop (i + 1)) (fields.drop (i + 1)) with _ | bs
        · rw [he] at this
          exact this
        · rw [he] at this
          show Ev _ (seq, wrap64 kind, strOfNums (acc ++ (le (nb ws[i]) fields[i] ++ bs)), 0)
          rw [← List.append_assoc]
          exact this
      · simp only [hf, Bool.false_eq_true, if_false, encL]
        exact Ev.now _
def allTabs : List (List Int) := [[8, 8, 32, -16, 16], [-32, -32, -32, -32, -32, -32, -32], [8, -32, -32, -32], [8, 16], [8, -32], [8, 16, 8, -32, -32, -32, -32], [8], []]
theorem tab_mem (a : Int) : widthsTab a ∈ allTabs := by
  unfold widthsTab allTabs
  repeat' split
  all_goals decide
theorem tabs_fine : ∀ l ∈ allTabs, (∀ w ∈ l, w = 8 ∨ w = 16 ∨ w = 32 ∨ w = -16 ∨ w = -32) ∧ l.length ≤ 7 := by decide
theorem widths_W5 (a : Int) : (∀ w ∈ widthsTab a, W5 w) ∧ (widthsTab a).length ≤ 7 := tabs_fine _ (tab_mem a)
/-- What Encode answers. -/
def encS (seq kind : Int) (fields : List Int) : Int × Int × ByteArray × Int :=
  if (widthsTab kind).length = 0 then (0, 0, ⟨#[]⟩, 6) else if (widthsTab kind).length ≠ fields.length then (0, 0, ⟨#[]⟩, 50) else if seq < 0 ∨ seq > 255 then (0, 0, ⟨#[]⟩, 5)
  else encR seq kind [] (encL (widthsTab kind) fields)
theorem enc_ev (seq kind : Int) (fields : List Int) (hk : 0 ≤ kind ∧ kind ≤ 255) : Ev (fun k => msgs_Encode.f k seq kind fields) (encS seq kind fields) := by
  obtain ⟨hW, hn⟩ := widths_W5 kind
  have e : msgs_widths.f kind = some (widthsTab kind) := by unfold msgs_widths.f; rw [if_pos hk]
  by_cases h1 : (widthsTab kind).length = 0
  · refine Ev.congr (f := fun _ => some (0, 0, ⟨#[]⟩, 6)) (fun k => ?_) ?_
    · unfold msgs_Encode.f
      rw [e, Option.bind_some, if_pos (by omega)]
    · unfold encS
      rw [if_pos h1]
      exact Ev.now _
  · by_cases h2 : (widthsTab kind).length = fields.length
    · by_cases h3 : seq < 0
      · refine Ev.congr (f := fun _ => some (0, 0, ⟨#[]⟩, 5)) (fun k => ?_) ?_
        · unfold msgs_Encode.f
          rw [e, Option.bind_some, if_neg (by omega), if_pos (by omega), if_pos h3]
        · unfold encS
          rw [if_neg h1, if_neg (by omega), if_pos (.inl h3)]
          exact Ev.now _
      · by_cases h4 : seq > 255
        · refine Ev.congr (f := fun _ => some (0, 0, ⟨#[]⟩, 5)) (fun k => ?_) ?_
          · unfold msgs_Encode.f
            rw [e, Option.bind_some, if_neg (by omega), if_pos (by omega), if_neg h3, if_pos h4]
          · unfold encS
            rw [if_neg h1, if_neg (by omega), if_pos (.inr h4)]
            exact Ev.now _
        · refine Ev.congr (f := fun k => msgs_Encode.l0 k seq [] (widthsTab kind) ((widthsTab kind).length : Int) ((0 : Nat) : Int) kind fields) (fun k => ?_) ?_
          · unfold msgs_Encode.f
            rw [e, Option.bind_some, if_neg (by omega), if_pos (by omega), if_neg h3, if_neg h4]
            rfl
          · unfold encS
            rw [if_neg h1, if_neg (by omega), if_neg (by omega)]
            exact enc_loop seq kind (widthsTab kind) fields hW h2.symm (by omega) (widthsTab kind).length 0 [] (by omega) (by simp)
    · refine Ev.congr (f := fun _ => some (0, 0, ⟨#[]⟩, 50)) (fun k => ?_) ?_
      · unfold msgs_Encode.f
        rw [e, Option.bind_some, if_neg (by omega), if_neg (by omega)]
      · unfold encS
        rw [if_neg h1, if_pos h2]
        exact Ev.now _
end Go.Proofs.Yteleiocdjcdgcaa.X
