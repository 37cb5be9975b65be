/- Read: a round. -/
import Derived.Test.YtgbncncmoiadaaaReadC
namespace Go.Proofs.Ytgbncncmoiadaaa.Ex
open Go
set_option linter.unusedVariables false
set_option maxHeartbeats 2000000
def oV (fs : List F.Fm) : Value := if fs.length = 0 then .slice none 0 0 else .slice (some ⟨0, 0, none⟩) fs.length fs.length
def oB (fs : List F.Fm) : Hp := if fs.length = 0 then [] else [.own 23 (F.cells fs)]
theorem oV_some {fs : List F.Fm} (h : fs ≠ []) : oV fs = .slice (some ⟨0, 0, none⟩) fs.length fs.length := if_neg (fun e => h (List.length_eq_zero_iff.1 e))
theorem oB_some {fs : List F.Fm} (h : fs ≠ []) : oB fs = [.own 23 (F.cells fs)] := if_neg (fun e => h (List.length_eq_zero_iff.1 e))
theorem cells_snoc (P : List F.Fm) (f : F.Fm) : F.cells (P ++ [f]) = F.cells P ++ f.cells := by
  show List.flatMap _ _ = _
  rw [List.flatMap_append]
  show _ ++ (f.cells ++ []) = _
  rw [List.append_nil]
  rfl
theorem read_step {d : ByteArray} (hd : d.size ≤ 4398046510000) {P : List F.Fm} {k j : Nat} {l : List UInt8} (hl : l = (bl d).drop j) (hj : j ≤ d.size) (hk : k ≤ j) (hP : P.length ≤ j) (R : Out)
    (k_end : j = d.size → Out.le ⟨.exit 0, frRead d (.slice none 0 0) 0 0 (oV P) k j, oB P, []⟩ R)
    (w_next : j < d.size → ¬ (((l.getD 0 0).toNat : Nat) : Int) = 253 → Out.le ⟨.normal, frRead d (.slice none 0 0) 0 0 (oV P) k ((j : Int) + 1), oB P, []⟩ R)
    (w_wrong : j < d.size → (((l.getD 0 0).toNat : Nat) : Int) = 253 → F.look l = .wrong → Out.le ⟨.normal, frRead d (.slice none 0 0) 0 0 (oV P) ((k : Int) + 1) ((j : Int) + 1), oB P, []⟩ R)
    (w_stop : j < d.size → (((l.getD 0 0).toNat : Nat) : Int) = 253 → F.look l = .stop → Out.le ⟨.ret, frRead d (oV P) k ((d.size : Int) - j) (oV P) k j, oB P, []⟩ R)
    (w_good : ∀ f m, j < d.size → (((l.getD 0 0).toNat : Nat) : Int) = 253 → F.look l = .good f m → Out.le ⟨.normal, frRead d (.slice none 0 0) 0 0 (oV (P ++ [f])) k ((j + m : Nat) : Int), oB (P ++ [f]), []⟩ R) :
    CodeSpec Try.prog 0 read_loop (frRead d (.slice none 0 0) 0 0 (oV P) k j) (oB P) R := by
  have hll : l.length = d.size - j := by rw [hl, List.length_drop, bl_len]
  have hd1 : ∀ m, (bl d).drop (j + m) = l.drop m := fun m => by rw [hl, List.drop_drop]
  have get : ∀ m : Nat, (bl d).getD (j + m) 0 = l.getD m 0 := fun m => by rw [hl, getD_drop]
  have g : ∀ (e : Int) (m : Nat), e = (j : Int) + (m : Int) → Value.int .u8 ((UInt8.toNat (List.getD (Array.toList (ByteArray.data d)) (Int.toNat e) 0) : Nat) : Int) = .int .u8 (((l.getD m 0).toNat : Nat) : Int) := fun e m h => by
    rw [show Int.toNat e = j + m from by omega]
    show Value.int .u8 (((List.getD (bl d) (j + m) 0).toNat : Nat) : Int) = _
    rw [get]
  have hp2 : ∀ (f : F.Fm), P ++ [f] ≠ [] := by simp
  obtain ⟨n, hn⟩ : ∃ n : Nat, n = (l.getD 1 0).toNat := ⟨_, rfl⟩
  have hn255 := u8_255 (l.getD 1 0)
  have s255 := u8_255 (l.getD 2 0)
  have i255 := u8_255 (l.getD 3 0)
  have pay : j + n + 4 ≤ d.size → ByteArray.extract d (Int.toNat ((j : Int) + 4)) (Int.toNat ((j : Int) + 4 + (n : Int))) = F.str ((l.drop 4).take n) := fun h => by
    apply str_inj
    rw [bl_cut, bl_str, show Int.toNat ((j : Int) + 4) = j + 4 from by omega, show Int.toNat ((j : Int) + 4 + (n : Int)) = j + 4 + n from by omega, List.drop_take, Nat.add_sub_cancel_left, hd1 4]
  obtain ⟨c, hc⟩ : ∃ c, c = F.rc (n : Int) (((l.getD 2 0).toNat : Nat) : Int) (((l.getD 3 0).toNat : Nat) : Int) (ByteArray.extract d (Int.toNat ((j : Int) + 4)) (Int.toNat ((j : Int) + 4 + (n : Int)))) := ⟨_, rfl⟩
  have long : (j : Int) + 1 < (d.size : Int) → (n : Int) > 64 → F.look l = .wrong := fun h1 h2 => look_long (by omega) (by omega)
  have short1 : ¬ (j : Int) + 1 < (d.size : Int) → F.look l = .stop := fun h1 => look_stop (by omega)
  have short2 : (j : Int) + 1 < (d.size : Int) → ¬ (n : Int) > 64 → (j : Int) + 6 + (n : Int) > (d.size : Int) → F.look l = .stop := fun h1 h2 h3 => look_short (by omega) (by omega) (by omega)
  have full : (j : Int) + 1 < (d.size : Int) → ¬ (n : Int) > 64 → ¬ (j : Int) + 6 + (n : Int) > (d.size : Int) → F.look l = if (((l.getD (n + 4) 0).toNat : Nat) : Int) = IntKind.u8.wrap (Int.tmod c 256) ∧ (((l.getD (n + 5) 0).toNat : Nat) : Int) = IntKind.u8.wrap (IntKind.u16.wrap (Int.tdiv c 256))
      then .good ⟨l.getD 2 0, l.getD 3 0, (l.drop 4).take n⟩ (n + 6) else .wrong := fun h1 h2 h3 => by
    have := look_bytes (l := l) (c := c) (by omega) (by omega) (by omega) (by rw [hc, pay (by omega), hn])
    rw [← hn] at this
    exact this
  by_cases hPn : P = []
  · subst hPn
    apply read_round0 d j k (((l.getD 0 0).toNat : Nat) : Int) (n : Int) (((l.getD 2 0).toNat : Nat) : Int) (((l.getD 3 0).toNat : Nat) : Int) (((l.getD (n + 4) 0).toNat : Nat) : Int) (((l.getD (n + 5) 0).toNat : Nat) : Int) (IntKind.u8.wrap (Int.tmod c 256)) (IntKind.u8.wrap (IntKind.u16.wrap (Int.tdiv c 256))) hd ⟨by omega, by omega⟩ ⟨by omega, by omega⟩ ⟨by omega, by omega⟩ ⟨by omega, by omega⟩ ⟨by omega, by omega⟩ (g _ 0 (by omega)) (by rw [hn]; exact g _ 1 (by omega)) (g _ 2 (by omega)) (g _ 3 (by omega)) (g _ (n + 4) (by omega)) (g _ (n + 5) (by omega)) (by rw [hc]) (by rw [hc])
    case k_ptt => exact fun h0 h1 => w_next (by omega) h1
    case k_ptftt => exact fun h0 h1 h2 h3 => w_wrong (by omega) (Decidable.of_not_not h1) (long h2 h3)
    case k_ptftft => exact fun h0 h1 h2 h3 h4 => w_stop (by omega) (Decidable.of_not_not h1) (short2 h2 h3 h4)
    case k_ptftfft => exact fun h0 h1 h2 h3 h4 h5 => w_wrong (by omega) (Decidable.of_not_not h1) ((full h2 h3 h4).trans (if_neg fun q => h5 q.1))
    case k_ptftffft => exact fun h0 h1 h2 h3 h4 h5 h6 => w_wrong (by omega) (Decidable.of_not_not h1) ((full h2 h3 h4).trans (if_neg fun q => h6 q.2))
    case k_ptftffff =>
      intro h0 h1 h2 h3 h4 h5 h6
      have q := w_good _ _ (by omega) (Decidable.of_not_not h1) ((full h2 h3 h4).trans (if_pos ⟨Decidable.of_not_not h5, Decidable.of_not_not h6⟩))
      rw [pay (by omega)]
      rw [show (j : Int) + 6 + (n : Int) = ((j + (n + 6) : Nat) : Int) from by omega]
      exact q
    case k_ptff => exact fun h0 h1 h2 => w_stop (by omega) (Decidable.of_not_not h1) (short1 h2)
    case k_pf => exact fun h0 => k_end (by omega)
  · rw [oV_some hPn, oB_some hPn] at k_end w_next w_wrong w_stop ⊢
    apply read_round1 d j k (((l.getD 0 0).toNat : Nat) : Int) (n : Int) (((l.getD 2 0).toNat : Nat) : Int) (((l.getD 3 0).toNat : Nat) : Int) (((l.getD (n + 4) 0).toNat : Nat) : Int) (((l.getD (n + 5) 0).toNat : Nat) : Int) (IntKind.u8.wrap (Int.tmod c 256)) (IntKind.u8.wrap (IntKind.u16.wrap (Int.tdiv c 256))) hd ⟨by omega, by omega⟩ ⟨by omega, by omega⟩ ⟨by omega, by omega⟩ ⟨by omega, by omega⟩ ⟨by omega, by omega⟩ (g _ 0 (by omega)) (by rw [hn]; exact g _ 1 (by omega)) (g _ 2 (by omega)) (g _ 3 (by omega)) (g _ (n + 4) (by omega)) (g _ (n + 5) (by omega)) (by rw [hc]) (by rw [hc]) P.length (F.cells P) (cells_length P) (by omega) (by rw [cells_length]; simp; omega)
    case k_ptt => exact fun h0 h1 => w_next (by omega) h1
    case k_ptftt => exact fun h0 h1 h2 h3 => w_wrong (by omega) (Decidable.of_not_not h1) (long h2 h3)
    case k_ptftft => exact fun h0 h1 h2 h3 h4 => w_stop (by omega) (Decidable.of_not_not h1) (short2 h2 h3 h4)
    case k_ptftfft => exact fun h0 h1 h2 h3 h4 h5 => w_wrong (by omega) (Decidable.of_not_not h1) ((full h2 h3 h4).trans (if_neg fun q => h5 q.1))
    case k_ptftffft => exact fun h0 h1 h2 h3 h4 h5 h6 => w_wrong (by omega) (Decidable.of_not_not h1) ((full h2 h3 h4).trans (if_neg fun q => h6 q.2))
    case k_ptftffff =>
      intro h0 h1 h2 h3 h4 h5 h6
      have q := w_good _ _ (by omega) (Decidable.of_not_not h1) ((full h2 h3 h4).trans (if_pos ⟨Decidable.of_not_not h5, Decidable.of_not_not h6⟩))
      rw [oV_some (hp2 _), oB_some (hp2 _), cells_snoc, List.length_append] at q
      rw [pay (by omega)]
      rw [show (j : Int) + 6 + (n : Int) = ((j + (n + 6) : Nat) : Int) from by omega]
      exact q
    case k_ptff => exact fun h0 h1 h2 => w_stop (by omega) (Decidable.of_not_not h1) (short1 h2)
    case k_pf => exact fun h0 => k_end (by omega)
end Go.Proofs.Ytgbncncmoiadaaa.Ex
