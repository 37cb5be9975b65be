/- FrameBack: all its rounds, and what is read back. -/
import Derived.Test.YtgbncncmoiadaaaBackB
namespace Go.Proofs.Ytgbncncmoiadaaa.Ex
open Go
set_option linter.unusedVariables false
set_option maxHeartbeats 2000000
theorem back_last {btw : ByteArray} {A : List F.Ar} {B : List UInt8} {W : List F.Fm} (hb : btw.size ≤ 1048576) (hA : A.length ≤ 4398046510976) (hBW : B = [] ↔ W = []) (hB : B.length ≤ 4194304) (hW : W.length ≤ 4194304) (R : Out)
    (k_end : Out.le ⟨.exit 0, frBack A.length btw (bV 1 B) (wV W) A.length, [.ro 23 (A.flatMap arC)] ++ bB B ++ wB W, []⟩ R) :
    CodeSpec Try.prog 1 back_loop (frBack A.length btw (bV 1 B) (wV W) A.length) ([.ro 23 (A.flatMap arC)] ++ bB B ++ wB W) R := by
  have hcl := clean_size btw
  have hz : (F.encS 0 0 ⟨#[]⟩).size ≤ 70 := (encS_len (0, 0, ⟨#[]⟩)).1
  have no : ∀ {P : Prop}, ((A.length : Nat) : Int) < ((A.length : Nat) : Int) → P := fun h => absurd h (by omega)
  by_cases hBn : B = []
  · have hWn := hBW.1 hBn
    subst hBn hWn
    apply back_round0 btw ⟨#[]⟩ A.length 0 0 A.length (A.flatMap arC) (arC_len A) hA ⟨by omega, by omega⟩ hb (by decide) (by omega) hz no no no no no no no (by simp [bytes_len]; omega) (by rw [bytes_len]; omega) (by rw [bytes_len]; omega)
    case k_pf => intro _; exact k_end
    all_goals intro h0; exact no h0
  · have hWn : W ≠ [] := fun h => hBn (hBW.2 h)
    have hB0 : 0 < B.length := List.length_pos_iff.2 hBn
    have hbl : (bytesOf (F.str B)).length = B.length := by rw [bytes_len, str_size]
    rw [bV_some hBn, bB_some hBn, wV_some hWn, wB_some hWn] at k_end ⊢
    by_cases hce : (F.clean btw).size = 0
    · have hc : F.clean btw = ⟨#[]⟩ := by apply str_inj; exact List.length_eq_zero_iff.1 (by rw [bl_len]; exact hce)
      have hput : put (bytesOf (F.str B)) (B.length * 1) (bytesOf (F.clean btw)) = bytesOf (F.str B) := by rw [hc]; rfl
      apply back_round1a btw ⟨#[]⟩ A.length 0 0 A.length (A.flatMap arC) (arC_len A) hA ⟨by omega, by omega⟩ hb (by decide) (by omega) hz no no no no no no no B.length W.length (bytesOf (F.str B)) (F.cells W) hbl (cells_length W) ⟨hB0, hB⟩ hW hce (by rw [hput, hbl]; simp; omega) (by rw [hput, hbl]; omega)
      case k_pf => intro _; exact k_end
      all_goals intro h0; exact no h0
    · apply back_round1b btw ⟨#[]⟩ A.length 0 0 A.length (A.flatMap arC) (arC_len A) hA ⟨by omega, by omega⟩ hb (by decide) (by omega) hz no no no no no no no B.length W.length (bytesOf (F.str B)) (F.cells W) hbl (cells_length W) ⟨hB0, hB⟩ hW (by omega) (by rw [List.length_append, hbl, bytes_len]; simp; omega) (by rw [List.length_append, hbl, bytes_len]; omega)
      case k_pf => intro _; exact k_end
      all_goals intro h0; exact no h0
structure F.Bk where
  B : List UInt8
  W : List F.Fm
  i : Nat
def F.bk1 (btw : ByteArray) (s : F.Bk) (b : F.Ar) : F.Bk :=
  if F.encE b.1 b.2.1 b.2.2 = 0 then ⟨s.B ++ F.cleanL (bl btw) ++ F.enc (F.fm b.1 b.2.1 b.2.2), s.W ++ [F.fm b.1 b.2.1 b.2.2], s.i + 1⟩ else ⟨s.B, s.W, s.i + 1⟩
def F.bk (btw : ByteArray) : List F.Ar → F.Bk → F.Bk
  | [], s => s
  | b :: r, s => if s.B.length < 1048576 then F.bk btw r (F.bk1 btw s b) else s
/-- What holds of the bytes so far: they are read as the frames so far. -/
structure F.Bk.fit (s : F.Bk) : Prop where
  both : s.B = [] ↔ s.W = []
  many : s.W.length ≤ s.B.length
  size : s.B.length ≤ 2097300
  reads : F.read s.B = ⟨s.W, 0, []⟩
theorem pass_clean : ∀ (l m : List UInt8), F.pass (F.cleanL l ++ m) = F.pass m
  | [], m => rfl
  | b :: l, m => by
    by_cases h : b = 253
    · subst h
      exact pass_clean l m
    · have e : F.cleanL (b :: l) = b :: F.cleanL l := List.filter_cons_of_pos (by simpa using h)
      rw [e, List.cons_append, pass_cons, show (b == 253) = false from beq_false_of_ne h]
      exact pass_clean l m
theorem read_clean (l m : List UInt8) : F.read (F.cleanL l ++ m) = F.read m := by rw [← read_pass, pass_clean, read_pass]
theorem bk1_fit {btw : ByteArray} (hb : btw.size ≤ 1048576) {s : F.Bk} (h : s.fit) (hl : s.B.length < 1048576) (b : F.Ar) : (F.bk1 btw s b).fit := by
  unfold F.bk1
  by_cases hE : F.encE b.1 b.2.1 b.2.2 = 0
  · rw [if_pos hE]
    have hp : (F.fm b.1 b.2.1 b.2.2).p.length ≤ 64 := by
      show (bl b.2.2).length ≤ 64
      rw [bl_len]
      exact (encE_cases _ _ _ hE).2.2.2.2
    have hc := cleanL_len (bl btw)
    rw [bl_len] at hc
    have hl2 : (s.B ++ F.cleanL (bl btw) ++ F.enc (F.fm b.1 b.2.1 b.2.2)).length = s.B.length + (F.cleanL (bl btw)).length + ((F.fm b.1 b.2.1 b.2.2).p.length + 6) := by
      rw [List.length_append, List.length_append, enc_len]
    refine ⟨⟨fun e => ?_, fun e => ?_⟩, ?_, ?_, ?_⟩
    · exact absurd (congrArg List.length e) (by rw [hl2]; simp)
    · exact absurd e (by simp)
    · show (s.W ++ [_]).length ≤ _
      rw [hl2, List.length_append]
      have := h.many
      show _ + 1 ≤ _
      omega
    · rw [hl2]; omega
    · rw [List.append_assoc, read_app, h.reads]
      show F.Got.mk (s.W ++ (F.read ([] ++ _)).fs) (0 + (F.read ([] ++ _)).bad) (F.read ([] ++ _)).held = _
      rw [List.nil_append, read_clean]
      have e := read_enc hp []
      rw [List.append_nil] at e
      rw [e]
      rfl
  · rw [if_neg hE]
    exact ⟨h.both, h.many, h.size, h.reads⟩
theorem bk_fit {btw : ByteArray} (hb : btw.size ≤ 1048576) : ∀ (A : List F.Ar) {s : F.Bk}, s.fit → (F.bk btw A s).fit
  | [], s, h => h
  | b :: A, s, h => by
    unfold F.bk
    by_cases hl : s.B.length < 1048576
    · rw [if_pos hl]
      exact bk_fit hb A (bk1_fit hb h hl b)
    · rw [if_neg hl]
      exact h
theorem back_rounds {btw : ByteArray} {A : List F.Ar} (hb : btw.size ≤ 1048576) (hA : A.length ≤ 4398046510976) (hp : ∀ b ∈ A, b.2.2.size ≤ 140737488351232) : ∀ (r pre : List F.Ar) (s : F.Bk), A = pre ++ r → s.i = pre.length → s.fit →
    LoopSpec Try.prog 1 back_loop (frBack A.length btw (bV 1 s.B) (wV s.W) (s.i : Nat)) ([.ro 23 (A.flatMap arC)] ++ bB s.B ++ wB s.W)
      ⟨.exit 0, frBack A.length btw (bV 1 (F.bk btw r s).B) (wV (F.bk btw r s).W) ((F.bk btw r s).i : Nat), [.ro 23 (A.flatMap arC)] ++ bB (F.bk btw r s).B ++ wB (F.bk btw r s).W, []⟩
  | [], pre, s, hA2, hi, hf => by
    have e : s.i = A.length := by rw [hi, hA2, List.append_nil]
    have h := hf.many
    have h' := hf.size
    unfold F.bk
    rw [e]
    exact .last (back_last hb hA hf.both (by omega) (by omega) _ ⟨rfl, rfl, rfl, fun j hj => hj⟩) (by intro h; cases h)
  | b :: r, pre, s, hA2, hi, hf => by
    have h := hf.many
    have h' := hf.size
    have hj : A[s.i]? = some b := by rw [hi, hA2]; simp
    have hpb := hp b (List.mem_of_getElem? hj)
    unfold F.bk
    by_cases hl : s.B.length < 1048576
    · rw [if_pos hl]
      have next := back_rounds hb hA hp r (pre ++ [b]) (F.bk1 btw s b) (by rw [hA2, List.append_assoc]; rfl) (by unfold F.bk1; split <;> simp [hi]) (bk1_fit hb hf hl b)
      have hi1 : (F.bk1 btw s b).i = s.i + 1 := by unfold F.bk1; split <;> rfl
      rw [hi1] at next
      refine .more (o1 := ⟨.normal, frBack A.length btw (bV 1 (F.bk1 btw s b).B) (wV (F.bk1 btw s b).W) ((s.i + 1 : Nat) : Int), [.ro 23 (A.flatMap arC)] ++ bB (F.bk1 btw s b).B ++ wB (F.bk1 btw s b).W, []⟩) (back_step hb hA hj hpb hf.both (by omega) (by omega) _ (fun hE _ => ?_) (fun hE _ => ?_) (fun h => absurd hl h)) rfl next (fun j hj => by cases hj)
      · unfold F.bk1
        rw [if_neg hE]
        exact ⟨rfl, rfl, rfl, fun j hj => hj⟩
      · unfold F.bk1
        rw [if_pos hE]
        exact ⟨rfl, rfl, rfl, fun j hj => hj⟩
    · rw [if_neg hl]
      exact .last (back_step hb hA hj hpb hf.both (by omega) (by omega) _ (fun _ h => absurd h hl) (fun _ h => absurd h hl) (fun _ => ⟨rfl, rfl, rfl, fun j hj => hj⟩)) (by intro h; cases h)
/-- The bytes behind the loop. -/
def F.bk0 (btw : ByteArray) (A : List F.Ar) : F.Bk := F.bk btw A ⟨[], [], 0⟩
def F.bS (btw : ByteArray) (A : List F.Ar) : ByteArray := F.str (F.bk0 btw A).B
def F.bI (btw : ByteArray) (A : List F.Ar) : Nat := (F.bk0 btw A).i
theorem bk0_fit {btw : ByteArray} (hb : btw.size ≤ 1048576) (A : List F.Ar) : (F.bk0 btw A).fit := bk_fit hb A ⟨⟨fun _ => rfl, fun _ => rfl⟩, Nat.le_refl _, by decide, rfl⟩
theorem bS_read {btw : ByteArray} (hb : btw.size ≤ 1048576) (A : List F.Ar) : F.read (bl (F.bS btw A)) = ⟨(F.bk0 btw A).W, 0, []⟩ := (bk0_fit hb A).reads
theorem back_told {btw : ByteArray} {A : List F.Ar} (hb : btw.size ≤ 1048576) (hA : A.length ≤ 4398046510976) (hp : ∀ b ∈ A, b.2.2.size ≤ 140737488351232) (hn : (F.bk0 btw A).B ≠ []) :
    CodeSpec Try.prog 1 back_loopC (frBack A.length btw (.slice none 0 0) (.slice none 0 0) 0) [.ro 23 (A.flatMap arC)]
      ⟨.exit 0, frBack A.length btw (.slice (some ⟨1, 0, none⟩) (F.bS btw A).size (F.bS btw A).size) (.slice (some ⟨2, 0, none⟩) (F.count (F.bS btw A)) (F.count (F.bS btw A))) (F.bI btw A), [.ro 23 (A.flatMap arC), .own 5 (bytesOf (F.bS btw A)), .own 23 (F.out (F.bS btw A))], []⟩ := by
  have hf := bk0_fit hb A
  have hr := bS_read hb A
  have h := (back_rounds hb hA hp A [] ⟨[], [], 0⟩ rfl rfl ⟨⟨fun _ => rfl, fun _ => rfl⟩, Nat.le_refl _, by decide, rfl⟩).code
  have hw : (F.bk0 btw A).W ≠ [] := fun e => hn (hf.both.2 e)
  have e1 : F.count (F.bS btw A) = (F.bk0 btw A).W.length := by unfold F.count; rw [hr]
  have e2 : F.out (F.bS btw A) = F.cells (F.bk0 btw A).W := by unfold F.out; rw [hr]
  have e3 : (F.bS btw A).size = (F.bk0 btw A).B.length := str_size _
  rw [e1, e2, e3]
  have k1 : bV 1 (F.bk btw A ⟨[], [], 0⟩).B = .slice (some ⟨1, 0, none⟩) (F.bk0 btw A).B.length (F.bk0 btw A).B.length := bV_some hn
  have k2 : wV (F.bk btw A ⟨[], [], 0⟩).W = .slice (some ⟨2, 0, none⟩) (F.bk0 btw A).W.length (F.bk0 btw A).W.length := wV_some hw
  have k3 : bB (F.bk btw A ⟨[], [], 0⟩).B = [.own 5 (bytesOf (F.bS btw A))] := bB_some hn
  have k4 : wB (F.bk btw A ⟨[], [], 0⟩).W = [.own 23 (F.cells (F.bk0 btw A).W)] := wB_some hw
  rw [k1, k2, k3, k4] at h
  exact h
theorem back_told0 {btw : ByteArray} {A : List F.Ar} (hb : btw.size ≤ 1048576) (hA : A.length ≤ 4398046510976) (hp : ∀ b ∈ A, b.2.2.size ≤ 140737488351232) (hn : (F.bk0 btw A).B = []) :
    CodeSpec Try.prog 1 back_loopC (frBack A.length btw (.slice none 0 0) (.slice none 0 0) 0) [.ro 23 (A.flatMap arC)]
      ⟨.exit 0, frBack A.length btw (.slice none 0 0) (.slice none 0 0) (F.bI btw A), [.ro 23 (A.flatMap arC)], []⟩ := by
  have hf := bk0_fit hb A
  have h := (back_rounds hb hA hp A [] ⟨[], [], 0⟩ rfl rfl ⟨⟨fun _ => rfl, fun _ => rfl⟩, Nat.le_refl _, by decide, rfl⟩).code
  have hw : (F.bk0 btw A).W = [] := hf.both.1 hn
  have k1 : (F.bk btw A ⟨[], [], 0⟩).B = [] := hn
  have k2 : (F.bk btw A ⟨[], [], 0⟩).W = [] := hw
  rw [k1, k2] at h
  exact h
def backSum (btw : ByteArray) (A : List F.Ar) (fr : Fr) (hp : Hp) : Out := match fr.get 0 with
  | some (.slice _ nf _) => ⟨.exit 0, frBack nf btw (.slice (some ⟨1, 0, none⟩) (F.bS btw A).size (F.bS btw A).size) (.slice (some ⟨2, 0, none⟩) (F.count (F.bS btw A)) (F.count (F.bS btw A))) (F.bI btw A), hp ++ [.own 5 (bytesOf (F.bS btw A)), .own 23 (F.out (F.bS btw A))], []⟩
  | _ => ⟨.ret, fr, [], []⟩
def backSum0 (btw : ByteArray) (A : List F.Ar) (fr : Fr) (hp : Hp) : Out := match fr.get 0 with
  | some (.slice _ nf _) => ⟨.exit 0, frBack nf btw (.slice none 0 0) (.slice none 0 0) (F.bI btw A), hp, []⟩
  | _ => ⟨.ret, fr, [], []⟩
end Go.Proofs.Ytgbncncmoiadaaa.Ex
