/- FrameBack: its loop. -/
import Derived.Test.YtgbncncmoiadaaaBackA2
namespace Go.Proofs.Ytgbncncmoiadaaa.Ex
open Go
set_option linter.unusedVariables false
set_option maxHeartbeats 2000000
theorem nr_test {e : Int} (h : e ≠ 0) : ¬ (!false == decide (e = 0)) = true := by rw [decide_eq_false h]; decide
theorem r_test {a e : Int} (h : a ≤ 64 → e = 0) (g : e = 0 → a ≤ 64) : ¬ (!decide (a ≤ 64) == decide (e = 0)) = true := by
  by_cases k : a ≤ 64
  · rw [decide_eq_true k, decide_eq_true (h k)]; decide
  · rw [decide_eq_false k, decide_eq_false (fun q => k (g q))]; decide
theorem encE_iff (seq id : Int) (p : ByteArray) : F.encE seq id p = 0 ↔ (0 ≤ seq ∧ seq ≤ 255 ∧ 0 ≤ id ∧ id ≤ 255 ∧ (p.size : Int) ≤ 64) := by
  constructor
  · intro h
    have := encE_cases seq id p h
    omega
  · intro h
    exact (if_pos (by omega)).trans (if_pos (by omega))
abbrev F.Ar := Int × Int × ByteArray
def arC (b : F.Ar) : List Value := [.int .i64 b.1, .int .i64 b.2.1, .string b.2.2]
theorem arC_len : ∀ A : List F.Ar, (A.flatMap arC).length = A.length * 3
  | [] => rfl
  | b :: A => by
    rw [List.flatMap_cons, List.length_append, arC_len A, List.length_cons, Nat.succ_mul]
    simp [arC]
    omega
theorem arC_at : ∀ {A : List F.Ar} {j : Nat} {b : F.Ar}, A[j]? = some b → (A.flatMap arC).drop (j * 3) = arC b ++ (A.drop (j + 1)).flatMap arC
  | [], j, b, h => by simp at h
  | a :: A, 0, b, h => by
    simp only [List.getElem?_cons_zero, Option.some.injEq] at h
    subst h
    rfl
  | a :: A, j + 1, b, h => by
    have := arC_at (A := A) (j := j) (b := b) (by simpa using h)
    rw [List.flatMap_cons, show (j + 1) * 3 = (arC a).length + j * 3 from by simp [arC]; omega, List.drop_append, List.drop_eq_nil_of_le (by omega), List.nil_append, Nat.add_sub_cancel_left]
    exact this
theorem arC_get {A : List F.Ar} {j : Nat} {b : F.Ar} (h : A[j]? = some b) (o : Nat) (ho : o < 3) : List.getD (A.flatMap arC) (0 + Int.toNat (j : Int) * 3 + o) undef = (arC b).getD o undef := by
  have e := arC_at h
  rw [Nat.zero_add, Int.toNat_natCast, List.getD_eq_getElem?_getD, ← List.getElem?_drop, e, List.getElem?_append_left (by simp [arC]; omega), ← List.getD_eq_getElem?_getD]
theorem cells_app (a b : List F.Fm) : F.cells (a ++ b) = F.cells a ++ F.cells b := List.flatMap_append
theorem fm_cells {b : F.Ar} (h : F.encE b.1 b.2.1 b.2.2 = 0) : (F.fm b.1 b.2.1 b.2.2).cells = arC b := by
  have k := encE_cases _ _ _ h
  unfold F.fm F.Fm.cells arC
  rw [unbyte_nat ⟨k.1, k.2.1⟩, unbyte_nat ⟨k.2.2.1, k.2.2.2.1⟩, str_bl]
theorem encS_ok {b : F.Ar} (h : F.encE b.1 b.2.1 b.2.2 = 0) : F.encS b.1 b.2.1 b.2.2 = F.str (F.enc (F.fm b.1 b.2.1 b.2.2)) := by unfold F.encS; rw [if_pos h]
theorem encS_len (b : F.Ar) : (F.encS b.1 b.2.1 b.2.2).size ≤ 70 ∧ (F.encE b.1 b.2.1 b.2.2 = 0 → (F.encS b.1 b.2.1 b.2.2).size = b.2.2.size + 6) := by
  by_cases h : F.encE b.1 b.2.1 b.2.2 = 0
  · have e := (encE_cases _ _ _ h).2.2.2.2
    have z : (F.encS b.1 b.2.1 b.2.2).size = b.2.2.size + 6 := by rw [encS_ok h, str_size, enc_len]; show (bl b.2.2).length + 6 = _; rw [bl_len]
    exact ⟨by omega, fun _ => z⟩
  · have z : (F.encS b.1 b.2.1 b.2.2).size = 0 := by unfold F.encS; rw [if_neg h]; rfl
    exact ⟨by omega, fun k => absurd k h⟩
def wV (fs : List F.Fm) : Value := if fs.length = 0 then .slice none 0 0 else .slice (some ⟨2, 0, none⟩) fs.length fs.length
def wB (fs : List F.Fm) : Hp := if fs.length = 0 then [] else [.own 23 (F.cells fs)]
theorem wV_some {fs : List F.Fm} (h : fs ≠ []) : wV fs = .slice (some ⟨2, 0, none⟩) fs.length fs.length := if_neg (fun e => h (List.length_eq_zero_iff.1 e))
theorem wB_some {fs : List F.Fm} (h : fs ≠ []) : wB fs = [.own 23 (F.cells fs)] := if_neg (fun e => h (List.length_eq_zero_iff.1 e))
theorem put_nil (bs : List Value) (n : Nat) : put bs n [] = bs := rfl
theorem clean_size (s : ByteArray) : (F.clean s).size ≤ s.size := by
  unfold F.clean
  rw [str_size, ← bl_len]
  exact cleanL_len _
/-- One round, whatever the state. -/
theorem back_step {btw : ByteArray} {A : List F.Ar} {j : Nat} {b : F.Ar} {B : List UInt8} {W : List F.Fm} (hb : btw.size ≤ 1048576) (hA : A.length ≤ 4398046510976) (hj : A[j]? = some b) (hp : b.2.2.size ≤ 140737488351232)
    (hBW : B = [] ↔ W = []) (hB : B.length ≤ 4194304) (hW : W.length ≤ 4194304) (R : Out)
    (k_skip : F.encE b.1 b.2.1 b.2.2 ≠ 0 → B.length < 1048576 → Out.le ⟨.normal, frBack A.length btw (bV 1 B) (wV W) ((j : Int) + 1), [.ro 23 (A.flatMap arC)] ++ bB B ++ wB W, []⟩ R)
    (k_take : F.encE b.1 b.2.1 b.2.2 = 0 → B.length < 1048576 → Out.le ⟨.normal, frBack A.length btw (bV 1 (B ++ F.cleanL (bl btw) ++ F.enc (F.fm b.1 b.2.1 b.2.2))) (wV (W ++ [F.fm b.1 b.2.1 b.2.2])) ((j : Int) + 1), [.ro 23 (A.flatMap arC)] ++ bB (B ++ F.cleanL (bl btw) ++ F.enc (F.fm b.1 b.2.1 b.2.2)) ++ wB (W ++ [F.fm b.1 b.2.1 b.2.2]), []⟩ R)
    (k_end : ¬ B.length < 1048576 → Out.le ⟨.exit 0, frBack A.length btw (bV 1 B) (wV W) j, [.ro 23 (A.flatMap arC)] ++ bB B ++ wB W, []⟩ R) :
    CodeSpec Try.prog 1 back_loop (frBack A.length btw (bV 1 B) (wV W) j) ([.ro 23 (A.flatMap arC)] ++ bB B ++ wB W) R := by
  have hjl : j < A.length := (List.getElem?_eq_some_iff.1 hj).1
  have hE := encE_iff b.1 b.2.1 b.2.2
  obtain ⟨hz, hz2⟩ := encS_len b
  have hcl := clean_size btw
  have hcz : (F.clean btw).size = (F.cleanL (bl btw)).length := str_size _
  have g0 := arC_get hj 0 (by decide)
  have g1 := arC_get hj 1 (by decide)
  have g2 := arC_get hj 2 (by decide)
  have hu : Value.agg (List.toArray (List.take 3 (List.drop (0 + Int.toNat (j : Int) * 3) (A.flatMap arC)))) = .agg #[.int .i64 b.1, .int .i64 b.2.1, .string b.2.2] := by
    rw [Nat.zero_add, Int.toNat_natCast, arC_at hj]; rfl
  have hne : ∀ {l m : List UInt8} {f : F.Fm}, l ++ m ++ F.enc f ≠ [] := fun h => by have := congrArg List.length h; rw [List.length_append, enc_len] at this; simp at this
  have hwe : ∀ {f : F.Fm}, W ++ [f] ≠ [] := by simp
  rw [bV_some hne, bB_some hne, wV_some hwe, wB_some hwe] at k_take
  have cells : F.encE b.1 b.2.1 b.2.2 = 0 → F.cells (W ++ [F.fm b.1 b.2.1 b.2.2]) = F.cells W ++ arC b := fun h => by
    rw [cells_app, ← fm_cells h]
    show _ ++ (F.Fm.cells _ ++ []) = _
    rw [List.append_nil]
  have hSb : F.encE b.1 b.2.1 b.2.2 = 0 → bytesOf (F.str (F.enc (F.fm b.1 b.2.1 b.2.2))) = bytesOf (F.encS b.1 b.2.1 b.2.2) := fun h => by rw [encS_ok h]
  have take : F.encE b.1 b.2.1 b.2.2 = 0 → B.length < 1048576 → ∀ (n nw : Nat) (bs ws : List Value), n = B.length + (F.clean btw).size + (F.encS b.1 b.2.1 b.2.2).size → bs = bytesOf (F.str B) ++ bytesOf (F.clean btw) ++ bytesOf (F.encS b.1 b.2.1 b.2.2) → nw = W.length + 1 → ws = F.cells W ++ arC b →
      Out.le ⟨.normal, frBack A.length btw (.slice (some ⟨1, 0, none⟩) n n) (.slice (some ⟨2, 0, none⟩) nw nw) ((j : Int) + 1), [.ro 23 (A.flatMap arC), .own 5 bs, .own 23 ws], []⟩ R := fun h h' n nw bs ws e1 e2 e3 e4 => by
    have k := k_take h h'
    have z1 : (B ++ F.cleanL (bl btw) ++ F.enc (F.fm b.1 b.2.1 b.2.2)).length = n := by
      rw [List.length_append, List.length_append, e1, hcz, encS_ok h, str_size]
    have z2 : (W ++ [F.fm b.1 b.2.1 b.2.2]).length = nw := by rw [List.length_append, e3]; rfl
    rw [z1, z2, cells h, bytes_str, bytes_str, hSb h, ← e4] at k
    rw [e2]
    exact k
  have skip := fun (h1 : F.encE b.1 b.2.1 b.2.2 ≠ 0) (h2 : B.length < 1048576) => k_skip h1 h2
  by_cases hBn : B = []
  · have hWn := hBW.1 hBn
    subst hBn hWn
    apply back_round0 btw b.2.2 j b.1 b.2.1 A.length (A.flatMap arC) (arC_len A) hA ⟨by omega, by omega⟩ hb hp (by omega) hz (fun _ => hu) (fun _ => by rw [g0]; rfl) (fun _ => by rw [g1]; rfl) (fun _ => by rw [g2]; rfl) (fun _ => by rw [g0]; rfl) (fun _ => by rw [g1]; rfl) (fun _ => by rw [g2]; rfl) (by simp [bytes_len]; omega) (by rw [bytes_len]; omega) (by rw [bytes_len]; omega)
    case k_pf => intro h; exact absurd (show (j : Int) < (A.length : Int) by omega) h
    case k_ptttttfttf =>
      intro _ _ _ _ _ _ h6 h7 _
      have e : F.encE b.1 b.2.1 b.2.2 = 0 := hE.2 ⟨by assumption, by assumption, by assumption, by assumption, h6⟩
      have hc : F.clean btw = ⟨#[]⟩ := by apply str_inj; exact List.length_eq_zero_iff.1 (by rw [bl_len]; exact h7)
      exact take e (by decide) _ _ _ _ (by rw [h7]; simp) (by rw [hc]; rfl) rfl rfl
    case k_ptttttftff =>
      intro _ _ _ _ _ _ h6 h7 _
      have e : F.encE b.1 b.2.1 b.2.2 = 0 := hE.2 ⟨by assumption, by assumption, by assumption, by assumption, h6⟩
      exact take e (by decide) _ _ _ _ (by simp) rfl rfl rfl
    all_goals intros
    all_goals first
      | exact absurd (by with_reducible assumption : (!false == decide (F.encE b.1 b.2.1 b.2.2 = 0)) = true) (nr_test (by omega))
      | exact absurd (by with_reducible assumption : (!decide ((b.2.2.size : Int) ≤ 64) == decide (F.encE b.1 b.2.1 b.2.2 = 0)) = true) (r_test (by omega) (by omega))
      | exact skip (by omega) (by decide)
      | (exfalso; omega)
  · have hWn : W ≠ [] := fun h => hBn (hBW.2 h)
    have hB0 : 0 < B.length := List.length_pos_iff.2 hBn
    have hbl : (bytesOf (F.str B)).length = B.length := by rw [bytes_len, str_size]
    rw [bV_some hBn, bB_some hBn, wV_some hWn, wB_some hWn] at k_end k_skip ⊢
    by_cases hce : (F.clean btw).size = 0
    · have hc : F.clean btw = ⟨#[]⟩ := by apply str_inj; exact List.length_eq_zero_iff.1 (by rw [bl_len]; exact hce)
      have hput : put (bytesOf (F.str B)) (B.length * 1) (bytesOf (F.clean btw)) = bytesOf (F.str B) := by rw [hc]; rfl
      apply back_round1a btw b.2.2 j b.1 b.2.1 A.length (A.flatMap arC) (arC_len A) hA ⟨by omega, by omega⟩ hb hp (by omega) hz (fun _ => hu) (fun _ => by rw [g0]; rfl) (fun _ => by rw [g1]; rfl) (fun _ => by rw [g2]; rfl) (fun _ => by rw [g0]; rfl) (fun _ => by rw [g1]; rfl) (fun _ => by rw [g2]; rfl) B.length W.length (bytesOf (F.str B)) (F.cells W) hbl (cells_length W) ⟨hB0, hB⟩ hW hce (by rw [hput, hbl]; simp; omega) (by rw [hput, hbl]; omega)
      case k_pf => intro h; exact absurd (show (j : Int) < (A.length : Int) by omega) h
      case k_ptf => intro _ h; exact k_end (by omega)
      case k_pttttttftf =>
        intro _ h1 _ _ _ _ _ h6 _
        have e : F.encE b.1 b.2.1 b.2.2 = 0 := hE.2 ⟨by assumption, by assumption, by assumption, by assumption, h6⟩
        exact take e (by omega) _ _ _ _ rfl (by rw [hput, hc]; show _ = _ ++ [] ++ _; rw [List.append_nil]) rfl rfl
      all_goals intros
      all_goals first
        | exact absurd (by with_reducible assumption : (!false == decide (F.encE b.1 b.2.1 b.2.2 = 0)) = true) (nr_test (by omega))
        | exact absurd (by with_reducible assumption : (!decide ((b.2.2.size : Int) ≤ 64) == decide (F.encE b.1 b.2.1 b.2.2 = 0)) = true) (r_test (by omega) (by omega))
        | exact k_skip (by omega) (by omega)
        | (exfalso; omega)
    · apply back_round1b btw b.2.2 j b.1 b.2.1 A.length (A.flatMap arC) (arC_len A) hA ⟨by omega, by omega⟩ hb hp (by omega) hz (fun _ => hu) (fun _ => by rw [g0]; rfl) (fun _ => by rw [g1]; rfl) (fun _ => by rw [g2]; rfl) (fun _ => by rw [g0]; rfl) (fun _ => by rw [g1]; rfl) (fun _ => by rw [g2]; rfl) B.length W.length (bytesOf (F.str B)) (F.cells W) hbl (cells_length W) ⟨hB0, hB⟩ hW (by omega) (by rw [List.length_append, hbl, bytes_len]; simp; omega) (by rw [List.length_append, hbl, bytes_len]; omega)
      case k_pf => intro h; exact absurd (show (j : Int) < (A.length : Int) by omega) h
      case k_ptf => intro _ h; exact k_end (by omega)
      case k_pttttttftf =>
        intro _ h1 _ _ _ _ _ h6 _
        have e : F.encE b.1 b.2.1 b.2.2 = 0 := hE.2 ⟨by assumption, by assumption, by assumption, by assumption, h6⟩
        exact take e (by omega) _ _ _ _ rfl rfl rfl rfl
      all_goals intros
      all_goals first
        | exact absurd (by with_reducible assumption : (!false == decide (F.encE b.1 b.2.1 b.2.2 = 0)) = true) (nr_test (by omega))
        | exact absurd (by with_reducible assumption : (!decide ((b.2.2.size : Int) ≤ 64) == decide (F.encE b.1 b.2.1 b.2.2 = 0)) = true) (r_test (by omega) (by omega))
        | exact k_skip (by omega) (by omega)
        | (exfalso; omega)
end Go.Proofs.Ytgbncncmoiadaaa.Ex
