/- What the document's Decode answers. -/
import Derived.Test.YteleiocdjcdgcaaXPDec
import Derived.Test.YteleiocdjcdgcaaXPRefEnc
import Derived.Test.YteleiocdjcdgcaaXx7
namespace Go.Proofs.Yteleiocdjcdgcaa.X
open Go.RowKit Go.Proofs.YteleiocdjcdgcaaW.PrintWords Go.Proofs.YteleiocdjcdgcaaW.PrintLast Go.Proofs.YteleiocdjcdgcaaW.PrintMore
set_option linter.unusedVariables false
set_option linter.unusedSimpArgs false
theorem w64r {n : Int} (h0 : -9223372036854775808 ≤ n) (h1 : n ≤ 9223372036854775807) : wrap64 n = n := by unfold wrap64; omega
theorem rdec_end (seq id kind : Int) (ws : List Int) (s : ByteArray) (acc : List Int) (i : Nat) (hi : i < ws.length) (hw : W5 ws[i]) (ha : acc.length ≤ 20) (hn : ws.length ≤ 20) (at_ : Nat) (n : Int) (h0 : 0 ≤ n) (h1 : n < 256 ^ nb ws[i]) (r : Int × List Int × Int)
    (h : Ev (fun k => windhoverref05_Decode.l0 k (ws.map (fun w => w / 8)) (at_ : Int) ((i + 1 : Nat) : Int) seq id s kind (acc ++ [sgn ws[i] n])) r) :
    Ev (fun k => windhoverref05_Decode.l1 k (ws.map (fun w => w / 8)) (at_ : Int) (i : Int) n (256 ^ nb ws[i] : Int) (nb ws[i] : Int) seq id s kind acc) r := by
  have e1 : wrap64 ((i : Int) + 1) = ((i + 1 : Nat) : Int) := wrap_succ i (by omega)
  refine Ev.step (f := fun k => windhoverref05_Decode.l0 k (ws.map (fun w => w / 8)) (at_ : Int) ((i + 1 : Nat) : Int) seq id s kind (acc ++ [sgn ws[i] n])) (fun k => ?_) h
  rw [windhoverref05_Decode.l1, if_pos (by omega), if_pos (by simp; omega), refTab_at ws i hi, size_of _ hw, Option.bind_some, if_neg (by omega), e1]
  generalize ws[i] = w at *
  rcases hw with rfl | rfl | rfl | rfl | rfl
  · rw [if_neg (by decide), if_pos (by omega)]; rfl
  · rw [if_neg (by decide), if_pos (by omega)]; rfl
  · rw [if_neg (by decide), if_pos (by omega)]; rfl
  · have e2 : wrap64 (Int.tdiv ((256 : Int) ^ nb (-16)) 2) = 32768 := by decide +kernel
    have e3 : (256 : Int) ^ nb (-16) = 65536 := by decide +kernel
    rw [if_pos (by decide), e2]
    rw [e3] at h1 ⊢
    by_cases c : n ≥ 32768
    · rw [if_pos c, if_pos (by omega), w64r (by omega) (by omega), sgn, if_pos ⟨rfl, c⟩]
    · rw [if_neg c, if_pos (by omega), sgn, if_neg (by omega), if_neg (by omega)]
  · have e2 : wrap64 (Int.tdiv ((256 : Int) ^ nb (-32)) 2) = 2147483648 := by decide +kernel
    have e3 : (256 : Int) ^ nb (-32) = 4294967296 := by decide +kernel
    rw [if_pos (by decide), e2]
    rw [e3] at h1 ⊢
    by_cases c : n ≥ 2147483648
    · rw [if_pos c, if_pos (by omega), w64r (by omega) (by omega), sgn, if_neg (by omega), if_pos ⟨rfl, c⟩]
    · rw [if_neg c, if_pos (by omega), sgn, if_neg (by omega), if_neg (by omega)]
theorem acc_step (j : Nat) (hj : j < 4) (v b : Int) (hv0 : 0 ≤ v) (hv1 : v < 256 ^ j) (hb : 0 ≤ b ∧ b ≤ 255) : wrap64 (v + wrap64 (256 ^ j * wrap64 b)) = v + 256 ^ j * b ∧ wrap64 ((256 : Int) ^ j * 256) = 256 ^ (j + 1) := by
  have : j = 0 ∨ j = 1 ∨ j = 2 ∨ j = 3 := by omega
  rw [w64r (n := b) (by omega) (by omega)]
  rcases this with rfl | rfl | rfl | rfl
  all_goals simp only [Int.reducePow, Nat.reduceAdd] at hv1 ⊢
  all_goals constructor
  all_goals unfold wrap64
  all_goals omega
theorem rdec_bytes (seq id kind : Int) (V : List Int) (s : ByteArray) (acc : List Int) (i N at_ : Nat) (hi : (i : Int) < (V.length : Int)) (hN : N ≤ 4) (hat : at_ ≤ 80) (hsz : windhoverref05_size.f (rd V (i : Int)) = some (N : Int)) (r : Int × List Int × Int)
    (hend : at_ + N ≤ s.size → Ev (fun k => windhoverref05_Decode.l1 k V ((at_ + N : Nat) : Int) (i : Int) (leVal (((B s).drop at_).take N)) (256 ^ N : Int) (N : Int) seq id s kind acc) r)
    (hr : s.size - at_ < N → r = (0, [], 3)) :
    ∀ (d j : Nat), j + d = N → at_ + j ≤ s.size → Ev (fun k => windhoverref05_Decode.l1 k V ((at_ + j : Nat) : Int) (i : Int) (leVal (((B s).drop at_).take j)) (256 ^ j : Int) (j : Int) seq id s kind acc) r := by
  have hB := B_length s
  have hR : ∀ x ∈ (B s).drop at_, 0 ≤ x ∧ x ≤ 255 := fun x hx => B_range s x (List.mem_of_mem_drop hx)
  intro d
  induction d with
  | zero =>
    intro j hj hs
    obtain rfl : j = N := by omega
    exact hend hs
  | succ d ih =>
    intro j hj hs
    have p1 : (0 : Int) ≤ (i : Int) := by omega
    have p3 : (j : Int) < (N : Int) := by omega
    have p5 : (0 : Int) ≤ ((at_ + j : Nat) : Int) := by omega
    by_cases c : at_ + j < s.size
    · have p4 : ¬ (((at_ + j : Nat) : Int) ≥ (s.size : Int)) := by omega
      have p6 : ((at_ + j : Nat) : Int) < (s.size : Int) := by omega
      have j4 : j < 4 := by omega
      have ih' := ih (j + 1) (by omega) (by omega)
      have hjd : j < ((B s).drop at_).length := by rw [List.length_drop, hB]; omega
      have hlen : (((B s).drop at_).take j).length = j := by rw [List.length_take, Nat.min_eq_left (Nat.le_of_lt hjd)]
      have q1 : at_ + j < 9223372036854775807 := by omega
      have q2 : j < 9223372036854775807 := by omega
      have ex : wrap64 (((at_ + j : Nat) : Int) + 1) = ((at_ + (j + 1) : Nat) : Int) := wrap_succ _ q1
      have ej : wrap64 ((j : Int) + 1) = ((j + 1 : Nat) : Int) := wrap_succ _ q2
      have hv := leVal_range (((B s).drop at_).take j) (fun x hx => hR x (List.mem_of_mem_take hx))
      have hb := hR _ (List.getElem_mem hjd)
      rw [hlen] at hv
      have e : leVal (((B s).drop at_).take (j + 1)) = leVal (((B s).drop at_).take j) + 256 ^ j * ((B s).drop at_)[j] := by
        rw [List.take_succ_eq_append_getElem hjd, leVal_snoc, hlen]
      have eb : bt s ((at_ + j : Nat) : Int) = ((B s).drop at_)[j] := by
        rw [bt_B s (at_ + j) c, List.getElem_drop]
      obtain ⟨a1, a2⟩ := acc_step j j4 _ _ hv.1 hv.2 hb
      refine Ev.step (fun k => ?_) ih'
      rw [windhoverref05_Decode.l1, if_pos p1, if_pos hi, hsz, Option.bind_some, if_pos p3, if_neg p4, if_pos p5, if_pos p6, ex, ej, eb, e, a1, a2]
    · have p4 : ((at_ + j : Nat) : Int) ≥ (s.size : Int) := by omega
      rw [hr (by omega)]
      refine Ev.step (f := fun _ => some (0, [], 3)) (fun k => ?_) (Ev.now _)
      rw [windhoverref05_Decode.l1, if_pos p1, if_pos hi, hsz, Option.bind_some, if_pos p3, if_pos p4]
theorem rdec_loop (seq id kind : Int) (ws : List Int) (hW : ∀ w ∈ ws, W5 w) (hn : ws.length ≤ 20) (s : ByteArray) :
    ∀ (d i at_ : Nat) (acc : List Int), i + d = ws.length → acc.length = i → at_ ≤ s.size → at_ ≤ 4 * i →
      Ev (fun k => windhoverref05_Decode.l0 k (ws.map (fun w => w / 8)) (at_ : Int) (i : Int) seq id s kind acc) (decR kind acc (decL (ws.drop i) ((B s).drop at_))) := by
  have hB := B_length s
  intro d
  induction d with
  | zero =>
    intro i at_ acc hi ha hat h4
    obtain rfl : i = ws.length := by omega
    rw [List.drop_length]
    by_cases c : at_ = s.size
    · refine Ev.step (f := fun _ => some (kind, acc, 0)) (fun k => ?_) ?_
      · rw [windhoverref05_Decode.l0, if_neg (by simp), if_pos (by omega)]
      · rw [List.drop_of_length_le (by omega)]
        show Ev _ (kind, acc ++ [], 0)
        rw [List.append_nil]
        exact Ev.now _
    · refine Ev.step (f := fun _ => some (0, [], 3)) (fun k => ?_) ?_
      · rw [windhoverref05_Decode.l0, if_neg (by simp), if_neg (by omega)]
      · have : decL [] ((B s).drop at_) = none := by
          rcases hb : (B s).drop at_ with _ | ⟨x, xs⟩
          · have := congrArg List.length hb
            rw [List.length_drop] at this
            simp at this
            omega
          · rfl
        rw [this]
        exact Ev.now _
  | succ d ih =>
    intro i at_ acc hi ha hat h4
    have hi1 : i < ws.length := by omega
    have hw := hW ws[i] (List.getElem_mem hi1)
    have hnb := nb_le ws[i]
    rw [List.drop_eq_getElem_cons hi1]
    simp only [decL]
    have hlen : ((B s).drop at_).length = s.size - at_ := by rw [List.length_drop, hB]
    have hR : ∀ x ∈ (B s).drop at_, 0 ≤ x ∧ x ≤ 255 := fun x hx => B_range s x (List.mem_of_mem_drop hx)
    have hi' : (i : Int) < ((ws.map fun w => w / 8).length : Int) := by rw [List.length_map]; omega
    have ha20 : acc.length ≤ 20 := by omega
    have hat80 : at_ ≤ 80 := by omega
    have hsz : windhoverref05_size.f (rd (ws.map fun w => w / 8) (i : Int)) = some (nb ws[i] : Int) := by rw [refTab_at ws i hi1, size_of _ hw]
    have hgo := rdec_bytes seq id kind (ws.map fun w => w / 8) s acc i (nb ws[i]) at_ hi' hnb hat80 hsz (decR kind acc (if ((B s).drop at_).length < nb ws[i] then none else (decL (ws.drop (i + 1)) (((B s).drop at_).drop (nb ws[i]))).map fun t => sgn ws[i] (leVal (((B s).drop at_).take (nb ws[i]))) :: t))
      (fun hs => by
        have hv := leVal_range (((B s).drop at_).take (nb ws[i])) (fun x hx => hR x (List.mem_of_mem_take hx))
        have hl2 : (((B s).drop at_).take (nb ws[i])).length = nb ws[i] := by rw [List.length_take, hlen, Nat.min_eq_left (by omega)]
        rw [hl2] at hv
        refine rdec_end seq id kind ws s acc i hi1 hw ha20 hn _ _ hv.1 hv.2 _ ?_
        rw [if_neg (by omega), decR_cons, List.drop_drop]
        exact ih (i + 1) (at_ + nb ws[i]) _ (by omega) (by simp [ha]) (by omega) (by omega))
      (fun hs => by rw [if_pos (by omega)]; rfl) (nb ws[i]) 0 (by omega) (by omega)
    refine Ev.step (f := fun k => windhoverref05_Decode.l1 k (ws.map (fun w => w / 8)) ((at_ + 0 : Nat) : Int) (i : Int) (leVal (((B s).drop at_).take 0)) (256 ^ 0 : Int) ((0 : Nat) : Int) seq id s kind acc) (fun k => ?_) hgo
    rw [windhoverref05_Decode.l0, if_pos hi']
    rfl
theorem refDec_ev (seq id : Int) (s : ByteArray) : Ev (fun k => windhoverref05_Decode.f k seq id s) (decS id s) := by
  refine Ev.congr (f := fun k => windhoverref05_Decode.j0 k (decide (id < 1 ∨ id > 11)) seq id s) (fun k => ?_) ?_
  · unfold windhoverref05_Decode.f
    by_cases c : id < 1
    · rw [if_pos c, decide_eq_true (Or.inl c)]
    · rw [if_neg c]
      congr 1
      rw [decide_eq_decide]
      omega
  · unfold decS
    by_cases c : 1 ≤ id ∧ id ≤ 11
    · rw [if_pos c, decide_eq_false (by omega)]
      have hk : id % 256 = id := by omega
      refine Ev.step (f := fun k => (windhoverref05_Widths.f k id).bind fun t => windhoverref05_Decode.l0 k t 0 0 seq id s id ([] : List Int)) (fun k => ?_) (Ev.bind (refWidths_ev id) ?_)
      · rw [windhoverref05_Decode.j0, if_neg (by decide), hk]
      · have := rdec_loop seq id id (widthsTab id) (widths_W5 id).1 (by have := (widths_W5 id).2; omega) s (widthsTab id).length 0 0 [] (by omega) rfl (by omega) (by omega)
        rw [List.drop_zero, List.drop_zero] at this
        exact this
    · rw [if_neg c, decide_eq_true (by omega)]
      exact Ev.step (f := fun _ => some (0, [], 6)) (fun k => rfl) (Ev.now _)
end Go.Proofs.Yteleiocdjcdgcaa.X
