/- Bytes as whole numbers; a field's number out of its bytes, and back. -/
import Derived.Test.YteleiocdjcdgcaaXPEnc
import Derived.Lib.IndexBytes
import Derived.WideShapes
namespace Go.Proofs.Yteleiocdjcdgcaa.X
open Go.RowKit Go.Proofs.YteleiocdjcdgcaaW.PrintWords Go.Proofs.YteleiocdjcdgcaaW.PrintLast Go.Proofs.YteleiocdjcdgcaaW.PrintMore
set_option linter.unusedVariables false
set_option linter.unusedSimpArgs false
/-- A text's bytes as whole numbers. -/
def B (s : ByteArray) : List Int := s.data.toList.map (fun b => (b.toNat : Int))
theorem B_length (s : ByteArray) : (B s).length = s.size := by
  unfold B
  rw [List.length_map, Array.length_toList]
  rfl
theorem B_range (s : ByteArray) : ∀ x ∈ B s, 0 ≤ x ∧ x ≤ 255 := by
  intro x hx
  obtain ⟨b, _, rfl⟩ := List.mem_map.1 hx
  have := b.toNat_lt
  omega
theorem bt_B (s : ByteArray) (i : Nat) (h : i < s.size) : bt s (i : Int) = (B s)[i]'(by rw [B_length]; exact h) := by
  unfold bt
  rw [dif_pos (by simpa using h)]
  simp [B]
  rfl
theorem B_drop (s : ByteArray) (n : Nat) : B (s.extract n s.size) = (B s).drop n := by
  unfold B
  rw [Lib.extract_to_end, List.map_drop]
theorem B_inj {s t : ByteArray} (h : B s = B t) : s = t := by
  have h2 : s.data.toList = t.data.toList := by
    have hf : Function.Injective (fun b : UInt8 => (b.toNat : Int)) := by
      intro a b hab
      exact UInt8.toNat_inj.1 (Int.ofNat.inj hab)
    exact List.map_inj_right (fun a b h => hf h) |>.1 h
  exact Go.WideShapes.bytes_inj h2
theorem B_nums (xs : List Int) (h : ∀ x ∈ xs, 0 ≤ x ∧ x ≤ 255) : B (strOfNums xs) = xs := by
  unfold B
  rw [strOfNums_data, List.map_map]
  conv => rhs; rw [← List.map_id xs]
  refine List.map_congr_left (fun x hx => ?_)
  have := h x hx
  simp
  omega
theorem B_nil (s : ByteArray) : s.toList = [] ↔ B s = [] := by
  rw [ByteArray.toList_eq]
  unfold B
  simp
def leVal : List Int → Int
  | [] => 0
  | b :: bs => b + 256 * leVal bs
def sgn (w v : Int) : Int := if w = -16 ∧ v ≥ 32768 then v - 65536 else if w = -32 ∧ v ≥ 2147483648 then v - 4294967296 else v
/-- The numbers of fields, out of bytes that are just theirs. -/
def decL : List Int → List Int → Option (List Int)
  | [], [] => some []
  | [], _ :: _ => none
  | w :: ws, bs => if bs.length < nb w then none else (decL ws (bs.drop (nb w))).map (fun t => sgn w (leVal (bs.take (nb w))) :: t)
theorem le_range (m : Nat) (n : Int) : ∀ x ∈ le m n, 0 ≤ x ∧ x ≤ 255 := by
  induction m generalizing n with
  | zero => simp [le]
  | succ m ih =>
    intro x hx
    simp only [le, List.mem_cons] at hx
    rcases hx with rfl | hx
    · omega
    · exact ih _ x hx
theorem list_of_len (bs : List Int) (w : Int) (hw : W5 w) (h : bs.length = nb w) (hr : ∀ x ∈ bs, 0 ≤ x ∧ x ≤ 255) :
    le (nb w) (sgn w (leVal bs)) = bs ∧ fitB (sgn w (leVal bs)) w = true := by
  rcases hw with rfl | rfl | rfl | rfl | rfl
  · match bs, h with
    | [a], _ =>
      have ha := hr a (by simp)
      simp [leVal, sgn, nb, le, fitB, lo, hi]
      omega
  · match bs, h with
    | [a, b], _ =>
      have ha := hr a (by simp)
      have hb := hr b (by simp)
      simp [leVal, sgn, nb, le, fitB, lo, hi]
      omega
  · match bs, h with
    | [a, b, c, d], _ =>
      have ha := hr a (by simp)
      have hb := hr b (by simp)
      have hc := hr c (by simp)
      have hd := hr d (by simp)
      simp [leVal, sgn, nb, le, fitB, lo, hi]
      omega
  · match bs, h with
    | [a, b], _ =>
      have ha := hr a (by simp)
      have hb := hr b (by simp)
      simp [leVal, sgn, nb, le, fitB, lo, hi]
      split <;> omega
  · match bs, h with
    | [a, b, c, d], _ =>
      have ha := hr a (by simp)
      have hb := hr b (by simp)
      have hc := hr c (by simp)
      have hd := hr d (by simp)
      simp [leVal, sgn, nb, le, fitB, lo, hi]
      split <;> omega
theorem sgn_le (w n : Int) (hw : W5 w) (hf : fitB n w = true) : sgn w (leVal (le (nb w) n)) = n := by
  rcases hw with rfl | rfl | rfl | rfl | rfl
  all_goals (simp [fitB, lo, hi] at hf; simp [leVal, sgn, nb, le]; try split)
  all_goals omega
theorem dec_enc (ws : List Int) : ∀ (fs bs : List Int), (∀ w ∈ ws, W5 w) → fs.length = ws.length → encL ws fs = some bs → decL ws bs = some fs := by
  induction ws with
  | nil =>
    intro fs bs _ hl h
    have : fs = [] := by simpa using hl
    subst this
    simp [encL] at h
    subst h
    rfl
  | cons w ws ih =>
    intro fs bs hW hl h
    match fs, hl with
    | n :: fs, hl =>
      simp only [encL] at h
      split at h
      · rename_i hf
        obtain ⟨t, ht, rfl⟩ := Option.map_eq_some_iff.1 h
        have := ih fs t (fun w hw => hW w (List.mem_cons_of_mem _ hw)) (by simpa using hl) ht
        have hlen := le_length (nb w) n
        simp only [decL]
        rw [if_neg (by rw [List.length_append, hlen]; omega), List.drop_left' hlen, this, List.take_left' hlen]
        simp [sgn_le w n (hW w (by simp)) hf]
      · cases h
theorem enc_dec (ws : List Int) : ∀ (bs fs : List Int), (∀ w ∈ ws, W5 w) → (∀ x ∈ bs, 0 ≤ x ∧ x ≤ 255) → decL ws bs = some fs → fs.length = ws.length ∧ encL ws fs = some bs := by
  induction ws with
  | nil =>
    intro bs fs _ _ h
    match bs, h with
    | [], h =>
      simp [decL] at h
      subst h
      exact ⟨rfl, rfl⟩
  | cons w ws ih =>
    intro bs fs hW hr h
    simp only [decL] at h
    split at h
    · cases h
    · rename_i hlen
      obtain ⟨t, ht, rfl⟩ := Option.map_eq_some_iff.1 h
      obtain ⟨h1, h2⟩ := ih (bs.drop (nb w)) t (fun w hw => hW w (List.mem_cons_of_mem _ hw)) (fun x hx => hr x (List.mem_of_mem_drop hx)) ht
      obtain ⟨h3, h4⟩ := list_of_len (bs.take (nb w)) w (hW w (by simp)) (by rw [List.length_take]; omega) (fun x hx => hr x (List.mem_of_mem_take hx))
      refine ⟨by simp [h1], ?_⟩
      simp only [encL]
      rw [if_pos h4, h2, h3]
      simp
end Go.Proofs.Yteleiocdjcdgcaa.X
