/- What the reference's Encode answers: the same, but for the order of two checks that end alike. -/
import Derived.Test.YteleiocdjcdgcaaXPEnc
import Derived.Test.YteleiocdjcdgcaaXx3
import Derived.Test.YteleiocdjcdgcaaXx4
namespace Go.Proofs.Yteleiocdjcdgcaa.X
open Go.RowKit Go.Proofs.YteleiocdjcdgcaaW.PrintWords Go.Proofs.YteleiocdjcdgcaaW.PrintLast Go.Proofs.YteleiocdjcdgcaaW.PrintMore
set_option linter.unusedVariables false
set_option linter.unusedSimpArgs false
def refTab (a : Int) : List Int := (widthsTab a).map (fun w => w / 8)
theorem widths_out (a : Int) (h : a < 1 ∨ 11 < a) : widthsTab a = [] := by
  unfold widthsTab
  repeat rw [if_neg (by omega)]
theorem refWidths_ev (a : Int) : Ev (fun k => windhoverref05_Widths.f k a) (refTab a) := by
  by_cases h : 1 ≤ a ∧ a ≤ 11
  · have h2 : a = 1 ∨ a = 2 ∨ a = 3 ∨ a = 4 ∨ a = 5 ∨ a = 6 ∨ a = 7 ∨ a = 8 ∨ a = 9 ∨ a = 10 ∨ a = 11 := by omega
    rcases h2 with rfl | rfl | rfl | rfl | rfl | rfl | rfl | rfl | rfl | rfl | rfl
    all_goals exact Ev.of (windhoverref05_Widths.mono _) (k := 5) (by decide +kernel)
  · refine Ev.of (windhoverref05_Widths.mono _) (k := 5) ?_
    unfold refTab
    rw [widths_out a (by omega)]
    have e1 : a ≠ 1 := by omega
    have e2 : a ≠ 2 := by omega
    have e3 : a ≠ 3 := by omega
    have e4 : a ≠ 4 := by omega
    have e5 : a ≠ 5 := by omega
    have e6 : a ≠ 6 := by omega
    have e7 : a ≠ 7 := by omega
    have e8 : a ≠ 8 := by omega
    have e9 : a ≠ 9 := by omega
    have e10 : a ≠ 10 := by omega
    have e11 : a ≠ 11 := by omega
    simp [windhoverref05_Widths.f, windhoverref05_Widths.j0, windhoverref05_Widths.j1, e1, e2, e3, e4, e5, e6, e7, e8, e9, e10, e11]
/-- How many numbers a width holds. -/
def allOf (w : Int) : Int := if w = 8 then 256 else if w = 16 ∨ w = -16 then 65536 else 4294967296
theorem size_of (w : Int) (hw : W5 w) : windhoverref05_size.f (w / 8) = some (nb w : Int) := by
  rcases hw with rfl | rfl | rfl | rfl | rfl <;> decide +kernel
theorem all_ev (w : Int) (hw : W5 w) : Ev (fun k => windhoverref05_all.f k (w / 8)) (allOf w) := by
  rcases hw with rfl | rfl | rfl | rfl | rfl <;> exact Ev.of (windhoverref05_all.mono _) (k := 8) (by decide +kernel)
theorem fits_ev (n w : Int) (hw : W5 w) : Ev (fun k => windhoverref05_Fits.f k n (w / 8)) (fitB n w) := by
  have ha := all_ev w hw
  unfold windhoverref05_Fits.f
  rcases hw with rfl | rfl | rfl | rfl | rfl
  · by_cases c : n ≥ 0
    · refine Ev.congr (f := fun k => (windhoverref05_all.f k (8 / 8)).bind fun t => some (decide (n < t))) (fun k => by rw [if_neg (by decide), if_pos c]) (Ev.bind ha ?_)
      rw [show fitB n 8 = decide (n < allOf 8) by rw [Bool.eq_iff_iff]; simp [fitB, lo, hi, allOf]; omega]
      exact Ev.now _
    · refine Ev.congr (f := fun k => some false) (fun k => by rw [if_neg (by decide), if_neg c]) ?_
      rw [show fitB n 8 = false by simp [fitB, lo, hi]; omega]
      exact Ev.now _
  · by_cases c : n ≥ 0
    · refine Ev.congr (f := fun k => (windhoverref05_all.f k (16 / 8)).bind fun t => some (decide (n < t))) (fun k => by rw [if_neg (by decide), if_pos c]) (Ev.bind ha ?_)
      rw [show fitB n 16 = decide (n < allOf 16) by rw [Bool.eq_iff_iff]; simp [fitB, lo, hi, allOf]; omega]
      exact Ev.now _
    · refine Ev.congr (f := fun k => some false) (fun k => by rw [if_neg (by decide), if_neg c]) ?_
      rw [show fitB n 16 = false by simp [fitB, lo, hi]; omega]
      exact Ev.now _
  · by_cases c : n ≥ 0
    · refine Ev.congr (f := fun k => (windhoverref05_all.f k (32 / 8)).bind fun t => some (decide (n < t))) (fun k => by rw [if_neg (by decide), if_pos c]) (Ev.bind ha ?_)
      rw [show fitB n 32 = decide (n < allOf 32) by rw [Bool.eq_iff_iff]; simp [fitB, lo, hi, allOf]; omega]
      exact Ev.now _
    · refine Ev.congr (f := fun k => some false) (fun k => by rw [if_neg (by decide), if_neg c]) ?_
      rw [show fitB n 32 = false by simp [fitB, lo, hi]; omega]
      exact Ev.now _
  · refine Ev.congr (f := fun k => (windhoverref05_all.f k (-16 / 8)).bind fun t137 => (if n ≥ (wrap64 (Int.tdiv (wrap64 (-t137)) 2)) then ((windhoverref05_all.f k (-16 / 8)).bind fun t138 => (some (decide (n < (wrap64 (Int.tdiv t138 2)))))) else (some false))) (fun k => by rw [if_pos (by decide)]) (Ev.bind ha ?_)
    have e1 : wrap64 (Int.tdiv (wrap64 (-(allOf (-16)))) 2) = -32768 := by decide +kernel
    have e2 : wrap64 (Int.tdiv (allOf (-16)) 2) = 32768 := by decide +kernel
    by_cases c : n ≥ -32768
    · refine Ev.congr (f := fun k => (windhoverref05_all.f k (-16 / 8)).bind fun t138 => (some (decide (n < (wrap64 (Int.tdiv t138 2)))))) (fun k => by rw [e1, if_pos c]) (Ev.bind ha ?_)
      rw [e2, show fitB n (-16) = decide (n < 32768) by rw [Bool.eq_iff_iff]; simp [fitB, lo, hi]; omega]
      exact Ev.now _
    · refine Ev.congr (f := fun k => some false) (fun k => by rw [e1, if_neg c]) ?_
      rw [show fitB n (-16) = false by simp [fitB, lo, hi]; omega]
      exact Ev.now _
  · refine Ev.congr (f := fun k => (windhoverref05_all.f k (-32 / 8)).bind fun t137 => (if n ≥ (wrap64 (Int.tdiv (wrap64 (-t137)) 2)) then ((windhoverref05_all.f k (-32 / 8)).bind fun t138 => (some (decide (n < (wrap64 (Int.tdiv t138 2)))))) else (some false))) (fun k => by rw [if_pos (by decide)]) (Ev.bind ha ?_)
    have e1 : wrap64 (Int.tdiv (wrap64 (-(allOf (-32)))) 2) = -2147483648 := by decide +kernel
    have e2 : wrap64 (Int.tdiv (allOf (-32)) 2) = 2147483648 := by decide +kernel
    by_cases c : n ≥ -2147483648
    · refine Ev.congr (f := fun k => (windhoverref05_all.f k (-32 / 8)).bind fun t138 => (some (decide (n < (wrap64 (Int.tdiv t138 2)))))) (fun k => by rw [e1, if_pos c]) (Ev.bind ha ?_)
      rw [e2, show fitB n (-32) = decide (n < 2147483648) by rw [Bool.eq_iff_iff]; simp [fitB, lo, hi]; omega]
      exact Ev.now _
    · refine Ev.congr (f := fun k => some false) (fun k => by rw [e1, if_neg c]) ?_
      rw [show fitB n (-32) = false by simp [fitB, lo, hi]; omega]
      exact Ev.now _
theorem refTab_at (ws : List Int) (i : Nat) (h : i < ws.length) : rd (ws.map (fun w => w / 8)) (i : Int) = ws[i] / 8 := by
  rw [rd_nat _ i (by simpa using h)]
  simp
theorem enc_bytes (seq kind : Int) (ws fields : List Int) (i : Nat) (hi : i < ws.length) (hn : ws.length ≤ 20) (hw : W5 ws[i]) (r : Int × Int × ByteArray × Int) :
    ∀ (d j : Nat) (acc : List Int) (v : Int), j + d = nb ws[i] → acc.length ≤ 1000 + j → 0 ≤ v → v ≤ 4294967295 →
      Ev (fun k => windhoverref05_Encode.l0 k seq (ws.map (fun w => w / 8)) (acc ++ le d v) ((i + 1 : Nat) : Int) kind fields) r →
      Ev (fun k => windhoverref05_Encode.l1 k seq (ws.map (fun w => w / 8)) acc (i : Int) v (j : Int) kind fields) r := by
  intro d
  induction d with
  | zero =>
    intro j acc v hj ha h0 h1 h
    refine Ev.step (f := fun k => windhoverref05_Encode.l0 k seq (ws.map (fun w => w / 8)) acc ((i + 1 : Nat) : Int) kind fields) (fun k => ?_) (by simpa [le] using h)
    simp only [windhoverref05_Encode.l1]
    rw [if_pos (by omega), if_pos (by simpa using hi), refTab_at ws i hi, size_of _ hw, Option.bind_some, if_neg (by omega), wrap_succ i (by omega)]
  | succ d ih =>
    intro j acc v hj ha h0 h1 h
    refine Ev.step (f := fun k => windhoverref05_Encode.l1 k seq (ws.map (fun w => w / 8)) (acc ++ [v % 256]) (i : Int) (v / 256) ((j + 1 : Nat) : Int) kind fields) (fun k => ?_) ?_
    · have hm : (Int.tmod v 256) % 256 = v % 256 := by rw [Int.tmod_eq_emod_of_nonneg h0]; omega
      have hd : wrap64 (Int.tdiv v 256) = v / 256 := by rw [Int.tdiv_eq_ediv_of_nonneg h0]; unfold wrap64; omega
      have h4 := nb_le ws[i]
      simp only [windhoverref05_Encode.l1]
      rw [if_pos (by omega), if_pos (by simpa using hi), refTab_at ws i hi, size_of _ hw, Option.bind_some, if_pos (by omega), if_pos (by omega), hm, hd, wrap_succ j (by omega)]
    · refine ih (j + 1) (acc ++ [v % 256]) (v / 256) (by omega) (by simp; omega) (by omega) (by omega) ?_
      rw [List.append_assoc]
      exact h
theorem le_add (w n : Int) (hw : W5 w) : le (nb w) (n + allOf w) = le (nb w) n := by
  rcases hw with rfl | rfl | rfl | rfl | rfl
  all_goals (simp [nb, allOf, le]; try omega)
theorem fit_range (n w : Int) (hw : W5 w) (h : fitB n w = true) : (0 ≤ n → n ≤ 4294967295) ∧ (n < 0 → 0 ≤ n + allOf w ∧ n + allOf w ≤ 4294967295) := by
  rcases hw with rfl | rfl | rfl | rfl | rfl
  all_goals simp [fitB, lo, hi, allOf] at *; omega
def encRR (seq kind : Int) (acc : List Int) : Option (List Int) → Int × Int × ByteArray × Int
  | none => (0, 0, ⟨#[]⟩, 5)
  | some bs => if seq < 0 ∨ seq > 255 then (0, 0, ⟨#[]⟩, 5) else (seq, wrap64 kind, strOfNums (acc ++ bs), 0)
theorem refEnc_loop (seq kind : Int) (ws fields : List Int) (hW : ∀ w ∈ ws, W5 w) (hl : fields.length = ws.length) (hn : ws.length ≤ 20) :
    ∀ (d i : Nat) (acc : List Int), i + d = ws.length → acc.length ≤ 4 * i →
      Ev (fun k => windhoverref05_Encode.l0 k seq (ws.map (fun w => w / 8)) acc (i : Int) kind fields) (encRR seq kind acc (encL (ws.drop i) (fields.drop i))) := by
  intro d
  induction d with
  | zero =>
    intro i acc hi ha
    obtain rfl : i = ws.length := by omega
    refine Ev.step (f := fun _ => some (encRR seq kind acc (some []))) (fun k => ?_) ?_
    · simp only [windhoverref05_Encode.l0]
      rw [if_neg (by simp)]
      show _ = some (if seq < 0 ∨ seq > 255 then (0, 0, ⟨#[]⟩, 5) else (seq, wrap64 kind, strOfNums (acc ++ []), 0))
      by_cases h1 : seq < 0
      · rw [if_pos h1, if_pos (.inl h1)]
      · by_cases h2 : seq > 255
        · rw [if_neg h1, if_pos h2, if_pos (.inr h2)]
        · rw [if_neg h1, if_neg h2, if_neg (by omega), List.append_nil]
    · rw [List.drop_length]
      have : encL [] (fields.drop ws.length) = some [] := by simp [encL]
      rw [this]
      exact Ev.now _
  | succ d ih =>
    intro i acc hi ha
    have hi1 : i < ws.length := by omega
    have hi2 : i < fields.length := by omega
    have hw := hW ws[i] (List.getElem_mem hi1)
    have h4 := nb_le ws[i]
    rw [List.drop_eq_getElem_cons hi1, List.drop_eq_getElem_cons hi2]
    refine Ev.step (f := fun k => (windhoverref05_Fits.f k fields[i] (ws[i] / 8)).bind fun t147 => (if t147 = true then (if fields[i] < 0 then ((windhoverref05_all.f k (ws[i] / 8)).bind fun t149 => (windhoverref05_Encode.j1 k seq (ws.map (fun w => w / 8)) acc (i : Int) (wrap64 (fields[i] + t149)) kind fields)) else (windhoverref05_Encode.j1 k seq (ws.map (fun w => w / 8)) acc (i : Int) fields[i] kind fields)) else (some (0, 0, (⟨#[]⟩ : ByteArray), 5)))) (fun k => ?_) ?_
    · simp only [windhoverref05_Encode.l0]
      rw [if_pos (by simp; omega), if_pos (by omega), if_pos (by omega), refTab_at ws i hi1, rd_nat fields i hi2]
    · refine Ev.bind (fits_ev fields[i] ws[i] hw) ?_
      by_cases hf : fitB fields[i] ws[i] = true
      · obtain ⟨hr0, hr1⟩ := fit_range _ _ hw hf
        have rest : ∀ v : Int, 0 ≤ v → v ≤ 4294967295 → le (nb ws[i]) v = le (nb ws[i]) fields[i] →
            Ev (fun k => windhoverref05_Encode.j1 k seq (ws.map (fun w => w / 8)) acc (i : Int) v kind fields) (encRR seq kind acc (encL (ws[i] :: ws.drop (i + 1)) (fields[i] :: fields.drop (i + 1)))) := by
          intro v h0 h1 hle
          refine Ev.step (f := fun k => windhoverref05_Encode.l1 k seq (ws.map (fun w => w / 8)) acc (i : Int) v ((0 : Nat) : Int) kind fields) (fun k => rfl) ?_
          refine enc_bytes seq kind ws fields i hi1 hn hw _ (nb ws[i]) 0 acc v (by omega) (by omega) h0 h1 ?_
          rw [hle]
          have := ih (i + 1) (acc ++ le (nb ws[i]) fields[i]) (by omega) (by rw [List.length_append, le_length]; omega)
          simp only [encL, hf, if_true]
          rcases he : encL (ws.drop (i + 1)) (fields.drop (i + 1)) with _ | bs
          · rw [he] at this
            exact this
          · rw [he] at this
            show Ev _ (encRR seq kind acc (some (le (nb ws[i]) fields[i] ++ bs)))
            show Ev _ (if seq < 0 ∨ seq > 255 then (0, 0, ⟨#[]⟩, 5) else (seq, wrap64 kind, strOfNums (acc ++ (le (nb ws[i]) fields[i] ++ bs)), 0))
            rw [← List.append_assoc]
            exact this
        by_cases hneg : fields[i] < 0
        · refine Ev.congr (f := fun k => (windhoverref05_all.f k (ws[i] / 8)).bind fun t149 => (windhoverref05_Encode.j1 k seq (ws.map (fun w => w / 8)) acc (i : Int) (wrap64 (fields[i] + t149)) kind fields)) (fun k => by rw [if_pos hf, if_pos hneg]) (Ev.bind (all_ev _ hw) ?_)
          have hx := hr1 hneg
          rw [show wrap64 (fields[i] + allOf ws[i]) = fields[i] + allOf ws[i] by unfold wrap64; omega]
          exact rest _ hx.1 hx.2 (le_add _ _ hw)
        · refine Ev.congr (f := fun k => windhoverref05_Encode.j1 k seq (ws.map (fun w => w / 8)) acc (i : Int) fields[i] kind fields) (fun k => by rw [if_pos hf, if_neg hneg]) ?_
          exact rest _ (by omega) (hr0 (by omega)) rfl
      · refine Ev.congr (f := fun k => some (0, 0, (⟨#[]⟩ : ByteArray), 5)) (fun k => by rw [if_neg hf]) ?_
        simp only [encL, hf, Bool.false_eq_true, if_false]
        exact Ev.now _
theorem encRR_in (seq kind : Int) (acc : List Int) (o : Option (List Int)) (h : ¬ (seq < 0 ∨ seq > 255)) : encRR seq kind acc o = encR seq kind acc o := by
  cases o with
  | none => rfl
  | some bs => exact if_neg h
theorem encRR_out (seq kind : Int) (acc : List Int) (o : Option (List Int)) (h : seq < 0 ∨ seq > 255) : encRR seq kind acc o = (0, 0, ⟨#[]⟩, 5) := by
  cases o with
  | none => rfl
  | some bs => exact if_pos h
theorem refEnc_ev (seq kind : Int) (fields : List Int) : Ev (fun k => windhoverref05_Encode.f k seq kind fields) (encS seq kind fields) := by
  obtain ⟨hW, hn⟩ := widths_W5 kind
  have hlen : (refTab kind).length = (widthsTab kind).length := by simp [refTab]
  refine Ev.bind (refWidths_ev kind) ?_
  by_cases h1 : (widthsTab kind).length = 0
  · refine Ev.congr (f := fun _ => some (0, 0, ⟨#[]⟩, 6)) (fun k => ?_) ?_
    · rw [if_pos (by omega)]
    · unfold encS
      rw [if_pos h1]
      exact Ev.now _
  · by_cases h2 : (widthsTab kind).length = fields.length
    · refine Ev.congr (f := fun k => windhoverref05_Encode.l0 k seq (refTab kind) [] ((0 : Nat) : Int) kind fields) (fun k => ?_) ?_
      · rw [if_neg (by omega), if_pos (by omega)]
        rfl
      · have := refEnc_loop seq kind (widthsTab kind) fields hW h2.symm (by omega) (widthsTab kind).length 0 [] (by omega) (by simp)
        rw [List.drop_zero, List.drop_zero] at this
        unfold encS
        rw [if_neg h1, if_neg (by omega)]
        by_cases h3 : seq < 0 ∨ seq > 255
        · rw [if_pos h3]
          rw [encRR_out _ _ _ _ h3] at this
          exact this
        · rw [if_neg h3]
          rw [encRR_in _ _ _ _ h3] at this
          exact this
    · refine Ev.congr (f := fun _ => some (0, 0, ⟨#[]⟩, 50)) (fun k => ?_) ?_
      · rw [if_neg (by omega), if_neg (by omega)]
      · unfold encS
        rw [if_neg h1, if_pos h2]
        exact Ev.now _
end Go.Proofs.Yteleiocdjcdgcaa.X
