/- What msgs.Decode answers, in plain words on lists. -/
import Derived.Test.YteleiocdjcdgcaaXPBytes
import Derived.Test.YteleiocdjcdgcaaXx5
namespace Go.Proofs.Yteleiocdjcdgcaa.X
open Go.RowKit Go.Proofs.YteleiocdjcdgcaaW.PrintWords Go.Proofs.YteleiocdjcdgcaaW.PrintLast Go.Proofs.YteleiocdjcdgcaaW.PrintMore
set_option linter.unusedVariables false
set_option linter.unusedSimpArgs false
theorem bits_or_comm (k : IntKind) (x y : Int) : bits .or k x y = bits .or k y x := by
  simp only [bits, BitVec.or_comm]
theorem wraps_i64 (n : Int) (h0 : 0 ≤ n) (h1 : n < 2 ^ 62) : IntKind.i64.wrap n = n := by rw [IntKind.wrap_i64]; omega
theorem or_at (n b : Int) (j : Nat) (hj : j < 4) (hn : 0 ≤ n) (hn2 : n < 256 ^ j) (hb : 0 ≤ b) (hb2 : b ≤ 255) : Go.bits .or .i64 n (shl .i64 (wrap64 b) (wrap64 (8 * (j : Int)))) = n + 256 ^ j * b := by
  have hw : wrap64 b = b := by unfold wrap64; omega
  rw [hw, bits_or_comm]
  have h4 : j = 0 ∨ j = 1 ∨ j = 2 ∨ j = 3 := by omega
  rcases h4 with rfl | rfl | rfl | rfl
  · rw [show shl .i64 b (wrap64 (8 * ((0 : Nat) : Int))) = b by simp [shl, wrap64, IntKind.wrap_i64]; omega]
    rw [bits_join .i64 62 (by decide) wraps_i64 0 b n hb (by omega) (by omega) hn (by omega) (by omega)]
    omega
  · rw [show shl .i64 b (wrap64 (8 * ((1 : Nat) : Int))) = 256 * b by simp [shl, wrap64, IntKind.wrap_i64, IntKind.bits]; omega]
    rw [bits_join .i64 62 (by decide) wraps_i64 8 (256 * b) n (by omega) (by omega) (by omega) hn (by omega) (by omega)]
    omega
  · rw [show shl .i64 b (wrap64 (8 * ((2 : Nat) : Int))) = 65536 * b by simp [shl, wrap64, IntKind.wrap_i64, IntKind.bits]; omega]
    rw [bits_join .i64 62 (by decide) wraps_i64 16 (65536 * b) n (by omega) (by omega) (by omega) hn (by omega) (by omega)]
    omega
  · rw [show shl .i64 b (wrap64 (8 * ((3 : Nat) : Int))) = 16777216 * b by simp [shl, wrap64, IntKind.wrap_i64, IntKind.bits]; omega]
    rw [bits_join .i64 62 (by decide) wraps_i64 24 (16777216 * b) n (by omega) (by omega) (by omega) hn (by omega) (by omega)]
    omega
theorem leVal_snoc (bs : List Int) (b : Int) : leVal (bs ++ [b]) = leVal bs + 256 ^ bs.length * b := by
  induction bs with
  | nil => simp [leVal]
  | cons a bs ih =>
    simp only [List.cons_append, leVal, ih, List.length_cons, Int.pow_succ]
    rw [Int.mul_add, Int.mul_comm (256 ^ bs.length) 256, Int.mul_assoc]
    omega
theorem leVal_range (bs : List Int) (h : ∀ x ∈ bs, 0 ≤ x ∧ x ≤ 255) : 0 ≤ leVal bs ∧ leVal bs < 256 ^ bs.length := by
  induction bs with
  | nil => simp [leVal]
  | cons a bs ih =>
    have h1 := ih (fun x hx => h x (List.mem_cons_of_mem _ hx))
    have h2 := h a (by simp)
    simp only [leVal, List.length_cons, Int.pow_succ]
    omega
theorem abs_of (w : Int) (hw : W5 w) : mx w (wrap64 (-w)) = 8 * (nb w : Int) := by
  rcases hw with rfl | rfl | rfl | rfl | rfl <;> decide +kernel
theorem tdiv8 (m : Nat) (h : m ≤ 4) : wrap64 (Int.tdiv (8 * (m : Int)) 8) = (m : Int) := by
  rw [Int.tdiv_eq_ediv_of_nonneg (by omega)]
  unfold wrap64
  omega
def decR (kind : Int) (acc : List Int) : Option (List Int) → Int × List Int × Int
  | none => (0, [], 3)
  | some vs => (kind, acc ++ vs, 0)
theorem decR_cons (kind : Int) (acc : List Int) (v : Int) (o : Option (List Int)) : decR kind acc (o.map (fun t => v :: t)) = decR kind (acc ++ [v]) o := by
  cases o with
  | none => rfl
  | some t => simp [decR]
theorem dec_bytes (kind : Int) (ws : List Int) (s : ByteArray) (acc : List Int) (i : Nat) (w : Int) (hw : W5 w) (hi : i < ws.length) (hn : ws.length ≤ 20) (ha : acc.length ≤ 20) (hs : nb w ≤ s.size) (r : Int × List Int × Int)
    (h : Ev (fun k => msgs_Decode.l0 k (s.extract (nb w) s.size) ws (ws.length : Int) ((i + 1 : Nat) : Int) kind (acc ++ [sgn w (leVal ((B s).take (nb w)))])) r) :
    ∀ (d j : Nat), j + d = nb w → Ev (fun k => msgs_Decode.l1 k s w (8 * (nb w : Int)) (leVal ((B s).take j)) ws (ws.length : Int) (i : Int) (nb w : Int) (j : Int) kind acc) r := by
  have h4 := nb_le w
  have hB := B_length s
  intro d
  induction d with
  | zero =>
    intro j hj
    obtain rfl : j = nb w := by omega
    obtain ⟨v, hv⟩ : ∃ v, v = leVal ((B s).take (nb w)) := ⟨_, rfl⟩
    have hvr := leVal_range ((B s).take (nb w)) (fun x hx => B_range s x (List.mem_of_mem_take hx))
    rw [← hv] at h hvr ⊢
    rw [List.length_take, hB, Nat.min_eq_left hs] at hvr
    refine Ev.step (f := fun k => msgs_Decode.l0 k (s.extract (nb w) s.size) ws (ws.length : Int) ((i + 1 : Nat) : Int) kind (acc ++ [sgn w v])) (fun k => ?_) h
    simp only [msgs_Decode.l1]
    have ht : wrap64 (Int.tdiv (8 * (nb w : Int)) 8) = (nb w : Int) := tdiv8 _ h4
    rw [if_neg (by omega), ht, wrap_succ i (by omega), Int.toNat_natCast]
    rcases hw with rfl | rfl | rfl | rfl | rfl
    · rw [if_neg (by decide), if_pos (by omega), if_pos (by omega), if_pos (by omega)]
      rfl
    · rw [if_neg (by decide), if_pos (by omega), if_pos (by omega), if_pos (by omega)]
      rfl
    · rw [if_neg (by decide), if_pos (by omega), if_pos (by omega), if_pos (by omega)]
      rfl
    · have e1 : shl .i64 1 (wrap64 (8 * (nb (-16) : Int) - 1)) = 32768 := by decide +kernel
      have e2 : shl .i64 1 (8 * (nb (-16) : Int)) = 65536 := by decide +kernel
      have e3 : nb (-16) = 2 := rfl
      rw [e3] at hvr hs
      rw [if_pos (by decide), if_pos (by decide +kernel), e1, e2]
      by_cases c : v ≥ 32768
      · rw [if_pos c, if_pos (by decide +kernel), if_pos (by omega), if_pos (by omega), if_pos (by omega), show sgn (-16) v = wrap64 (v - 65536) by unfold sgn wrap64; rw [if_pos ⟨rfl, c⟩]; omega]
      · rw [if_neg c, if_pos (by omega), if_pos (by omega), if_pos (by omega), show sgn (-16) v = v by unfold sgn; rw [if_neg (fun h => c h.2), if_neg (fun h => by omega)]]
    · have e1 : shl .i64 1 (wrap64 (8 * (nb (-32) : Int) - 1)) = 2147483648 := by decide +kernel
      have e2 : shl .i64 1 (8 * (nb (-32) : Int)) = 4294967296 := by decide +kernel
      have e3 : nb (-32) = 4 := rfl
      rw [e3] at hvr hs
      rw [if_pos (by decide), if_pos (by decide +kernel), e1, e2]
      by_cases c : v ≥ 2147483648
      · rw [if_pos c, if_pos (by decide +kernel), if_pos (by omega), if_pos (by omega), if_pos (by omega), show sgn (-32) v = wrap64 (v - 4294967296) by unfold sgn wrap64; rw [if_neg (fun h => absurd h.1 (by decide)), if_pos ⟨rfl, c⟩]; omega]
      · rw [if_neg c, if_pos (by omega), if_pos (by omega), if_pos (by omega), show sgn (-32) v = v by unfold sgn; rw [if_neg (fun h => absurd h.1 (by decide)), if_neg (fun h => c h.2)]]
  | succ d ih =>
    intro j hj
    have hj1 : j < s.size := by omega
    refine Ev.step (f := fun k => msgs_Decode.l1 k s w (8 * (nb w : Int)) (leVal ((B s).take (j + 1))) ws (ws.length : Int) (i : Int) (nb w : Int) ((j + 1 : Nat) : Int) kind acc) (fun k => ?_) (ih (j + 1) (by omega))
    simp only [msgs_Decode.l1]
    have hvr := leVal_range ((B s).take j) (fun x hx => B_range s x (List.mem_of_mem_take hx))
    rw [List.length_take, hB, Nat.min_eq_left (by omega)] at hvr
    have hbr := B_range s ((B s)[j]'(by rw [hB]; exact hj1)) (List.getElem_mem _)
    rw [if_pos (by omega), if_pos (by omega), if_pos (by omega), if_pos (by unfold wrap64; omega), bt_B s j hj1, or_at _ _ j (by omega) hvr.1 hvr.2 hbr.1 hbr.2, wrap_succ j (by omega)]
    have ht : (B s).take (j + 1) = (B s).take j ++ [(B s)[j]'(by rw [hB]; exact hj1)] := by rw [List.take_succ_eq_append_getElem]
    have hlen : ((B s).take j).length = j := by rw [List.length_take, hB, Nat.min_eq_left (by omega)]
    rw [ht, leVal_snoc, hlen]
theorem dec_loop (kind : Int) (ws : List Int) (hW : ∀ w ∈ ws, W5 w) (hn : ws.length ≤ 20) :
    ∀ (d i : Nat) (s : ByteArray) (acc : List Int), i + d = ws.length → acc.length = i →
      Ev (fun k => msgs_Decode.l0 k s ws (ws.length : Int) (i : Int) kind acc) (decR kind acc (decL (ws.drop i) (B s))) := by
  intro d
  induction d with
  | zero =>
    intro i s acc hi ha
    obtain rfl : i = ws.length := by omega
    rw [List.drop_length]
    by_cases c : s.toList = []
    · refine Ev.step (f := fun _ => some (kind, acc, 0)) (fun k => ?_) ?_
      · simp only [msgs_Decode.l0]
        rw [if_neg (by omega), if_pos c]
      · rw [(B_nil s).1 c]
        show Ev _ (kind, acc ++ [], 0)
        rw [List.append_nil]
        exact Ev.now _
    · refine Ev.step (f := fun _ => some (0, [], 3)) (fun k => ?_) ?_
      · simp only [msgs_Decode.l0]
        rw [if_neg (by omega), if_neg c]
      · have : decL [] (B s) = none := by
          rcases hb : B s with _ | ⟨x, xs⟩
          · exact absurd ((B_nil s).2 hb) c
          · rfl
        rw [this]
        exact Ev.now _
  | succ d ih =>
    intro i s acc hi ha
    have hi1 : i < ws.length := by omega
    have hw := hW ws[i] (List.getElem_mem hi1)
    have hB := B_length s
    have h4 := nb_le ws[i]
    rw [List.drop_eq_getElem_cons hi1]
    simp only [decL]
    by_cases hs : s.size < nb ws[i]
    · refine Ev.step (f := fun _ => some (0, [], 3)) (fun k => ?_) ?_
      · simp only [msgs_Decode.l0]
        rw [if_pos (by omega), if_pos (by omega), if_pos (by omega), rd_nat ws i hi1, abs_of _ hw, tdiv8 _ h4, if_pos (by omega)]
      · rw [if_pos (by omega)]
        exact Ev.now _
    · refine Ev.step (f := fun k => msgs_Decode.l1 k s ws[i] (8 * (nb ws[i] : Int)) (leVal ((B s).take 0)) ws (ws.length : Int) (i : Int) (nb ws[i] : Int) ((0 : Nat) : Int) kind acc) (fun k => ?_) ?_
      · simp only [msgs_Decode.l0]
        rw [if_pos (by omega), if_pos (by omega), if_pos (by omega), rd_nat ws i hi1, abs_of _ hw, tdiv8 _ h4, if_neg (by omega)]
        rfl
      · rw [if_neg (by omega), decR_cons]
        refine dec_bytes kind ws s acc i ws[i] hw hi1 hn (by omega) (by omega) _ ?_ (nb ws[i]) 0 (by omega)
        have := ih (i + 1) (s.extract (nb ws[i]) s.size) (acc ++ [sgn ws[i] (leVal ((B s).take (nb ws[i])))]) (by omega) (by simp [ha])
        rw [B_drop] at this
        exact this
/-- What Decode answers. -/
def decS (id : Int) (s : ByteArray) : Int × List Int × Int := if 1 ≤ id ∧ id ≤ 11 then decR id [] (decL (widthsTab id) (B s)) else (0, [], 6)
theorem tab_some (a : Int) (h : 1 ≤ a) (h2 : a ≤ 11) : (widthsTab a).length ≠ 0 := by
  have h3 : a = 1 ∨ a = 2 ∨ a = 3 ∨ a = 4 ∨ a = 5 ∨ a = 6 ∨ a = 7 ∨ a = 8 ∨ a = 9 ∨ a = 10 ∨ a = 11 := by omega
  rcases h3 with rfl | rfl | rfl | rfl | rfl | rfl | rfl | rfl | rfl | rfl | rfl <;> decide
theorem tab_none (a : Int) (h : a < 1 ∨ 11 < a) : widthsTab a = [] := by
  unfold widthsTab
  repeat rw [if_neg (by omega)]
theorem dec_ev (seq id : Int) (s : ByteArray) : Ev (fun k => msgs_Decode.f k seq id s) (decS id s) := by
  obtain ⟨hW, hn⟩ := widths_W5 id
  by_cases h0 : id < 0
  · refine Ev.congr (f := fun k => msgs_Decode.j0 k true seq id s) (fun k => by unfold msgs_Decode.f; rw [if_pos h0]) (Ev.step (f := fun _ => some (0, [], 6)) (fun k => rfl) ?_)
    unfold decS
    rw [if_neg (by omega)]
    exact Ev.now _
  · refine Ev.congr (f := fun k => msgs_Decode.j0 k (decide (id > 11)) seq id s) (fun k => by unfold msgs_Decode.f; rw [if_neg h0]) ?_
    by_cases h1 : id > 11
    · rw [decide_eq_true h1]
      refine Ev.step (f := fun _ => some (0, [], 6)) (fun k => rfl) ?_
      unfold decS
      rw [if_neg (by omega)]
      exact Ev.now _
    · rw [decide_eq_false h1]
      have hm : id % 256 = id := by omega
      have e : msgs_widths.f (id % 256) = some (widthsTab id) := by unfold msgs_widths.f; rw [hm, if_pos (by omega)]
      by_cases h2 : id = 0
      · refine Ev.step (f := fun _ => some (0, [], 6)) (fun k => ?_) ?_
        · simp only [msgs_Decode.j0]
          rw [if_neg (by decide), e, Option.bind_some, if_pos (by rw [tab_none id (by omega)]; rfl)]
        · unfold decS
          rw [if_neg (by omega)]
          exact Ev.now _
      · refine Ev.step (f := fun k => msgs_Decode.l0 k s (widthsTab id) ((widthsTab id).length : Int) ((0 : Nat) : Int) id []) (fun k => ?_) ?_
        · simp only [msgs_Decode.j0]
          have := tab_some id (by omega) (by omega)
          rw [if_neg (by decide), e, Option.bind_some, if_neg (by omega), hm]
          rfl
        · have := dec_loop id (widthsTab id) hW (by omega) (widthsTab id).length 0 s [] (by omega) rfl
          unfold decS
          rw [if_pos (by omega)]
          exact this
end Go.Proofs.Yteleiocdjcdgcaa.X
