/- FrameFeeds: a round, whatever the state. -/
import Derived.Test.YtgbncncmoiadaaaFeedsC2
import Derived.Test.YtgbncncmoiadaaaBytes
namespace Go.Proofs.Ytgbncncmoiadaaa.Ex
open Go
set_option linter.unusedVariables false
set_option maxHeartbeats 2000000
def F.badS (T : List UInt8) : Int := F.least ((F.read T).bad : Nat)
theorem least_add2 (a b : Nat) : F.least (F.least ((a : Nat) : Int) + ((b : Nat) : Int)) = F.least ((a + b : Nat) : Int) := by
  unfold F.least
  split <;> split <;> split <;> omega
theorem badS_fit (T : List UInt8) : 0 ≤ F.badS T ∧ F.badS T ≤ 65535 := by
  unfold F.badS F.least
  split <;> omega
section
variable (T : List UInt8) (p : ByteArray)
theorem hp_bl : bl (F.held (F.str T) ++ p) = (F.read T).held ++ bl p := by
  rw [bl_append]; rfl
theorem hp_read : F.read (T ++ bl p) = ⟨(F.read T).fs ++ (F.read (bl (F.held (F.str T) ++ p))).fs, (F.read T).bad + (F.read (bl (F.held (F.str T) ++ p))).bad, (F.read (bl (F.held (F.str T) ++ p))).held⟩ := by
  rw [hp_bl]; exact read_app T (bl p)
theorem hp_held : F.held (F.held (F.str T) ++ p) = F.held (F.str (T ++ bl p)) := by
  show F.str (F.read (bl (F.held (F.str T) ++ p))).held = F.str (F.read (T ++ bl p)).held
  rw [hp_read]
theorem hp_bad : F.badOf (F.held (F.str T) ++ p) (F.badS T) = F.badS (T ++ bl p) := by
  unfold F.badOf F.badS
  rw [hp_read, least_add2]
theorem hp_count : F.count (F.str (T ++ bl p)) = F.count (F.str T) + F.count (F.held (F.str T) ++ p) := by
  show (F.read (T ++ bl p)).fs.length = (F.read T).fs.length + _
  rw [hp_read]
  exact List.length_append
theorem hp_min : Value.int .i64 (if 65535 < F.nbad (F.str (T ++ bl p)) then 65535 else F.nbad (F.str (T ++ bl p))) = .int .i64 (F.badOf (F.held (F.str T) ++ p) (F.badS T)) := by
  rw [hp_bad]
  rfl
theorem held_le : (F.held (F.str T)).size ≤ 69 := held_size _
end
theorem feeds_step {A : List ByteArray} {T : List UInt8} {j : Nat} {p : ByteArray} (hA : A.length ≤ 4398046510000) (hj : j ≤ A.length) (hp : j < A.length → A[j]? = some p) (hpz : p.size ≤ 1048576) (hT : T.length ≤ 65536 + 1048576) (R : Out)
    (k_more : j < A.length → T.length < 65536 → Out.le ⟨.normal, frFeeds A.length (bV 2 (T ++ bl p)) ((F.count (F.str (T ++ bl p)) : Nat) : Int) ((j : Int) + 1), [.ro 9 (A.map .string), rdB (F.held (F.str (T ++ bl p))) (F.badS (T ++ bl p))] ++ bB (T ++ bl p), []⟩ R)
    (k_end : ¬ (j < A.length ∧ T.length < 65536) → Out.le ⟨.exit 0, frFeeds A.length (bV 2 T) ((F.count (F.str T) : Nat) : Int) j, [.ro 9 (A.map .string), rdB (F.held (F.str T)) (F.badS T)] ++ bB T, []⟩ R) :
    CodeSpec Try.prog 1 feeds_loop (frFeeds A.length (bV 2 T) ((F.count (F.str T) : Nat) : Int) j) ([.ro 9 (A.map .string), rdB (F.held (F.str T)) (F.badS T)] ++ bB T) R := by
  have hg : j < A.length → List.getD (A.map Value.string) (0 + Int.toNat (j : Int) * 1) undef = .string p := fun h => by
    rw [Nat.zero_add, Int.toNat_natCast, Nat.mul_one, List.getD_eq_getElem?_getD, List.getElem?_map, hp h]; rfl
  have hst : (j : Int) < (A.length : Int) → isStr (List.getD (A.map Value.string) (0 + Int.toNat (j : Int) * 1) undef) = true := fun h => by rw [hg (by omega)]; rfl
  have hv : (j : Int) < (A.length : Int) → Value.string (strOf (List.getD (A.map Value.string) (0 + Int.toNat (j : Int) * 1) undef)) = .string p := fun h => by rw [hg (by omega)]; rfl
  have hps : (A.map Value.string).length = A.length := List.length_map ..
  have hh := held_le T
  have hz : (F.held (F.str T)).size + p.size ≤ 4194304 := by omega
  have hb := badS_fit T
  have htl : (F.str (T ++ bl p)).size = T.length + p.size := by rw [str_size, List.length_append, bl_len]
  have ht : (F.str (T ++ bl p)).size ≤ 4194304 := by omega
  have hbd := hp_min T p
  have hhd : (F.held (F.held (F.str T) ++ p)).size = (F.held (F.str (T ++ bl p))).size := by rw [hp_held]
  have hcnt := hp_count T p
  have hfs := congrArg F.Got.fs (hp_read T p)
  have hct : F.count (F.str (T ++ bl p)) ≤ 4194304 := by
    have := (read_held (T ++ bl p)).2.2
    show (F.read (T ++ bl p)).fs.length ≤ _
    rw [← str_size] at this
    omega
  have hcn : F.count (F.held (F.str T) ++ p) ≤ 4194304 := by omega
  have hcl : (F.out (F.held (F.str T) ++ p)).length = F.count (F.held (F.str T) ++ p) * 3 := cells_length _
  have hwl : (F.wipe (F.out (F.held (F.str T) ++ p)) (F.count (F.held (F.str T) ++ p))).length = F.count (F.held (F.str T) ++ p) * 3 := by rw [wipe_len, hcl]
  have hS : CallSpec Try.prog 17 [.slice (some ⟨0, 0, none⟩) (F.count (F.held (F.str T) ++ p)) (F.count (F.held (F.str T) ++ p)), .slice (some ⟨1, 0 + Int.toNat ((F.count (F.str T) : Nat) : Int) * 3, none⟩) (F.count (F.str (T ++ bl p)) - Int.toNat ((F.count (F.str T) : Nat) : Int)) (F.count (F.str (T ++ bl p)) - Int.toNat ((F.count (F.str T) : Nat) : Int))] [.own 23 (F.out (F.held (F.str T) ++ p)), .own 23 (F.out (F.str (T ++ bl p)))] ⟨.bool true, [.own 23 (F.out (F.held (F.str T) ++ p)), .own 23 (F.out (F.str (T ++ bl p)))], []⟩ := by
    rw [Int.toNat_natCast, show F.count (F.str (T ++ bl p)) - F.count (F.str T) = F.count (F.held (F.str T) ++ p) from by omega, Nat.zero_add]
    refine same_done (fs := (F.read (bl (F.held (F.str T) ++ p))).fs) rfl (by show F.count _ ≤ _; omega) (holds3_all _) ?_
    have e : F.out (F.str (T ++ bl p)) = F.cells ((F.read T).fs ++ (F.read (bl (F.held (F.str T) ++ p))).fs) := by
      show F.cells (F.read (T ++ bl p)).fs = _
      rw [hfs]
    rw [e]
    exact holds3_cells _ _
  have more : (j : Int) < (A.length : Int) → T.length < 65536 → Out.le ⟨.normal, frFeeds A.length (bV 2 (T ++ bl p)) ((F.count (F.str (T ++ bl p)) : Nat) : Int) ((j : Int) + 1), [.ro 9 (A.map .string), rdB (F.held (F.held (F.str T) ++ p)) (F.badOf (F.held (F.str T) ++ p) (F.badS T))] ++ bB (T ++ bl p), []⟩ R := fun h h2 => by
    rw [hp_held, hp_bad]
    exact k_more (by omega) h2
  have fin : ¬ ((j : Int) < (A.length : Int) ∧ T.length < 65536) → Out.le ⟨.exit 0, frFeeds A.length (bV 2 T) ((F.count (F.str T) : Nat) : Int) j, [.ro 9 (A.map .string), rdB (F.held (F.str T)) (F.badS T)] ++ bB T, []⟩ R := fun h => k_end (by omega)
  have jr : 0 ≤ (j : Int) ∧ (j : Int) ≤ (A.length : Int) := ⟨by omega, by omega⟩
  by_cases hTn : T = []
  · subst hTn
    have c0 : F.count (F.str []) = 0 := rfl
    by_cases hp0 : p.size = 0
    · have pe : p = ⟨#[]⟩ := str_inj (List.length_eq_zero_iff.1 (by rw [bl_len]; exact hp0))
      subst pe
      apply feeds_v1 A.length (A.map .string) (F.held (F.str [])) ⟨#[]⟩ ⟨#[]⟩ (F.badS []) 0 j jr hA hps hst hv hz (by decide) hb rfl rfl rfl rfl
      case k_ptt => exact fun _ h => absurd rfl h
      case k_ptft => exact fun _ _ h => absurd rfl h
      case k_ptff => exact fun h _ _ => more h (by decide)
      case k_pf => exact fun h => fin (fun q => h q.1)
    · have hpn : bl p ≠ [] := fun e => hp0 (by rw [← bl_len, e]; rfl)
      have hy : Value.string (ByteArray.mk (List.toArray (List.map unbyte (List.take (ByteArray.size p * 1) (List.drop 0 (bytesOf p)))))) = .string (F.str ([] ++ bl p)) := by rw [unbytes_cut]; rfl
      have lp : (bl p).length = p.size := bl_len p
      rw [List.nil_append, bV_some hpn, bB_some hpn, lp] at more
      by_cases hn : (F.read (bl (F.held (F.str []) ++ p))).fs = []
      · have hw : (F.read (bl (F.str ([] ++ bl p)))).fs = [] := by show (F.read ([] ++ bl p)).fs = []; rw [hfs, hn]; rfl
        have hc : F.count (F.str ([] ++ bl p)) = 0 := by show (F.read (bl (F.str ([] ++ bl p)))).fs.length = 0; rw [hw]; rfl
        refine feeds_v2 A.length (A.map .string) (F.held (F.str [])) p (F.str ([] ++ bl p)) (F.badS []) 0 j jr hA hps hst hv hz ht hb hbd hhd (by omega) (by rw [bytes_len]; omega) (all_cut p) hy hn hw rfl R (fun h => ?_) (fun h => fin (fun q => h q.1))
        have m := more h (by decide)
        rw [show F.count (F.str (bl p)) = 0 from hc] at m
        exact m
      · have hw : (F.read (bl (F.str ([] ++ bl p)))).fs ≠ [] := by
          show (F.read ([] ++ bl p)).fs ≠ []
          rw [hfs]
          exact fun e => hn (List.append_eq_nil_iff.1 e).2
        exact feeds_v3 A.length (A.map .string) (F.held (F.str [])) p (F.str ([] ++ bl p)) (F.badS []) 0 j jr hA hps hst hv hz ht hb hbd hhd (by omega) (by rw [bytes_len]; omega) (all_cut p) hy hn hw hct ⟨by omega, by omega⟩ hcl hwl hcn hS R (fun h => more h (by decide)) (fun h => fin (fun q => h q.1))
  · have hbs : (bytesOf (F.str T)).length = T.length := by rw [bytes_len, str_size]
    rw [bV_some hTn, bB_some hTn] at fin ⊢
    have hlt : ((T.length : Nat) : Int) < 65536 → T.length < 65536 := fun h => by omega
    by_cases hp0 : p.size = 0
    · have pe : p = ⟨#[]⟩ := str_inj (List.length_eq_zero_iff.1 (by rw [bl_len]; exact hp0))
      subst pe
      have hT' : T ++ bl (ByteArray.mk #[]) = T := List.append_nil T
      rw [hT'] at more hbd hhd hcnt hfs hct ht htl hS
      rw [bV_some hTn, bB_some hTn] at more
      have hsz : T.length + (ByteArray.mk #[]).size = (F.str T).size := (str_size T).symm
      have hput : put (bytesOf (F.str T)) (T.length * 1) (bytesOf (ByteArray.mk #[])) = bytesOf (F.str T) := rfl
      have hn : (F.read (bl (F.held (F.str T) ++ (ByteArray.mk #[])))).fs = [] := by
        have := congrArg List.length hfs
        rw [List.length_append] at this
        exact List.length_eq_zero_iff.1 (by omega)
      have ho : 0 + (T.length + (ByteArray.mk #[]).size) * 1 ≤ (put (bytesOf (F.str T)) (T.length * 1) (bytesOf (ByteArray.mk #[]))).length := by rw [hput, hbs, hsz, str_size]; omega
      have ha : List.all (List.take ((T.length + (ByteArray.mk #[]).size) * 1) (List.drop 0 (put (bytesOf (F.str T)) (T.length * 1) (bytesOf (ByteArray.mk #[]))))) (isInt IntKind.u8) = true := by rw [hput, hsz]; exact all_cut _
      have hy : Value.string (ByteArray.mk (List.toArray (List.map unbyte (List.take ((T.length + (ByteArray.mk #[]).size) * 1) (List.drop 0 (put (bytesOf (F.str T)) (T.length * 1) (bytesOf (ByteArray.mk #[])))))))) = .string (F.str T) := by rw [hput, hsz, unbytes_cut]
      by_cases hw : (F.read (bl (F.str T))).fs = []
      · have hc : F.count (F.str T) = 0 := by show (F.read (bl (F.str T))).fs.length = 0; rw [hw]; rfl
        refine feeds_v4a A.length (A.map .string) (F.held (F.str T)) ⟨#[]⟩ (F.str T) (F.badS T) ((F.count (F.str T) : Nat) : Int) j jr hA hps hst hv hz ht hb hbd hhd rfl T.length (bytesOf (F.str T)) hbs hT ho ha hy hn hw (by omega) R (fun h h2 => ?_) (fun _ h => fin (fun q => h (by omega))) (fun h => fin (fun q => h q.1))
        have m := more h (hlt h2)
        rw [hc] at m
        exact m
      · exact feeds_v4b A.length (A.map .string) (F.held (F.str T)) ⟨#[]⟩ (F.str T) (F.badS T) ((F.count (F.str T) : Nat) : Int) j jr hA hps hst hv hz ht hb hbd hhd rfl T.length (bytesOf (F.str T)) hbs hT ho ha hy hn hw hct rfl R (fun h h2 => more h (hlt h2)) (fun _ h => fin (fun q => h (by omega))) (fun h => fin (fun q => h q.1))
    · have hpn : T ++ bl p ≠ [] := fun e => hTn (List.append_eq_nil_iff.1 e).1
      have hX : bytesOf (F.str T) ++ bytesOf p = bytesOf (F.str (T ++ bl p)) := (bytes_str T (bl p)).symm
      have hln : (T ++ bl p).length = T.length + p.size := by rw [List.length_append, bl_len]
      rw [bV_some hpn, bB_some hpn, hln, ← hX] at more
      have ho : 0 + (T.length + p.size) * 1 ≤ (bytesOf (F.str T) ++ bytesOf p).length := by rw [List.length_append, hbs, bytes_len]; omega
      have ha : List.all (List.take ((T.length + p.size) * 1) (List.drop 0 (bytesOf (F.str T) ++ bytesOf p))) (isInt IntKind.u8) = true := by rw [hX, ← htl]; exact all_cut _
      have hy : Value.string (ByteArray.mk (List.toArray (List.map unbyte (List.take ((T.length + p.size) * 1) (List.drop 0 (bytesOf (F.str T) ++ bytesOf p)))))) = .string (F.str (T ++ bl p)) := by rw [hX, ← htl, unbytes_cut]
      by_cases hn : (F.read (bl (F.held (F.str T) ++ p))).fs = []
      · have hce : F.count (F.held (F.str T) ++ p) = 0 := by show (F.read (bl (F.held (F.str T) ++ p))).fs.length = 0; rw [hn]; rfl
        by_cases hw : (F.read (bl (F.str (T ++ bl p)))).fs = []
        · have hc : F.count (F.str (T ++ bl p)) = 0 := by show (F.read (bl (F.str (T ++ bl p)))).fs.length = 0; rw [hw]; rfl
          refine feeds_v5a A.length (A.map .string) (F.held (F.str T)) p (F.str (T ++ bl p)) (F.badS T) ((F.count (F.str T) : Nat) : Int) j jr hA hps hst hv hz ht hb hbd hhd (by omega) T.length (bytesOf (F.str T)) hbs hT ho ha hy hn hw (by omega) R (fun h h2 => ?_) (fun _ h => fin (fun q => h (by omega))) (fun h => fin (fun q => h q.1))
          have m := more h (hlt h2)
          rw [hc] at m
          exact m
        · exact feeds_v5b A.length (A.map .string) (F.held (F.str T)) p (F.str (T ++ bl p)) (F.badS T) ((F.count (F.str T) : Nat) : Int) j jr hA hps hst hv hz ht hb hbd hhd (by omega) T.length (bytesOf (F.str T)) hbs hT ho ha hy hn hw hct (by omega) R (fun h h2 => more h (hlt h2)) (fun _ h => fin (fun q => h (by omega))) (fun h => fin (fun q => h q.1))
      · have hw : (F.read (bl (F.str (T ++ bl p)))).fs ≠ [] := by
          show (F.read (T ++ bl p)).fs ≠ []
          rw [hfs]
          exact fun e => hn (List.append_eq_nil_iff.1 e).2
        exact feeds_v5c A.length (A.map .string) (F.held (F.str T)) p (F.str (T ++ bl p)) (F.badS T) ((F.count (F.str T) : Nat) : Int) j jr hA hps hst hv hz ht hb hbd hhd (by omega) T.length (bytesOf (F.str T)) hbs hT ho ha hy hn hw hct ⟨by omega, by omega⟩ hcl hwl hcn hS R (fun h h2 => more h (hlt h2)) (fun _ h => fin (fun q => h (by omega))) (fun h => fin (fun q => h q.1))
end Go.Proofs.Ytgbncncmoiadaaa.Ex
