import Derived.Test.YtjalkjeldlchoaaZFnc4
section
set_option linter.unusedSectionVars false
set_option linter.unusedSimpArgs false
set_option linter.unusedVariables false
namespace Go.Proofs.Ytjalkjeldlchoaa.Ex
open Go Go.RowKit Go.Proofs.Ytjalkjeldlchoaa.X
set_option linter.unusedVariables false
/-- How a list is handed in: nil; none; points. -/
inductive Pk where
  | nil
  | emp
  | pts (l : List S23)
def Pk.list : Pk → List S23
  | .nil | .emp => []
  | .pts l => l
def Pk.val (b : Nat) : Pk → Value
  | .nil => .slice none 0 0
  | .emp => .slice (some ⟨b, 0, none⟩) 0 0
  | .pts l => .slice (some ⟨b, 0, none⟩) l.length l.length
def Pk.hp : Pk → Hp
  | .nil => []
  | .emp => [.dead]
  | .pts l => [.ro 39 (pc l)]
abbrev fA (P R : Pk) (fl ce : Int) : Value := fV (P.val 0) fl ce (R.val P.hp.length)
abbrev fH (P R : Pk) : Hp := P.hp ++ R.hp
theorem rlim {m : Nat} {fl ce : Int} : ((!inQ fl) = true → limV m fl ce = 5) ∧ (¬ (!inQ fl) = true → (!inQ ce) = true → limV m fl ce = 5) ∧ (¬ (!inQ fl) = true → ¬ (!inQ ce) = true → fl > 0 → limV m fl ce = 100) ∧ (¬ (!inQ fl) = true → ¬ (!inQ ce) = true → ce ≤ 0 → limV m fl ce = 100) ∧
    (¬ (!inQ fl) = true → ¬ (!inQ ce) = true → ¬ fl > 0 → ¬ ce ≤ 0 → m > 8 → limV m fl ce = 4) ∧ (¬ (!inQ fl) = true → ¬ (!inQ ce) = true → ¬ fl > 0 → ¬ ce ≤ 0 → ¬ m > 8 → limV m fl ce = 0) := by
  unfold limV
  cases inQ fl <;> cases inQ ce <;> simp <;> (repeat' constructor) <;> intros <;> (repeat' split) <;> omega
theorem rck_rounds {l r : List S23} {c d : Nat} {fl ce : Int} (hl : simpleV l = 0) (hm : r.length ≤ 8) : ∀ (k j : Nat), j + k = r.length →
    (rallyV l (r.drop j) ≠ 0 → LoopSpec Try.prog 2 rck_l (frK j) (hpC l.length c r.length d (pc l) (pc r) fl ce) ⟨.ret, frKR (rallyV l (r.drop j)), [.ro 39 (pc l), .ro 39 (pc r)], []⟩) ∧
    (rallyV l (r.drop j) = 0 → LoopSpec Try.prog 2 rck_l (frK j) (hpC l.length c r.length d (pc l) (pc r) fl ce) ⟨.exit 0, frK r.length, hpC l.length c r.length d (pc l) (pc r) fl ce, []⟩)
  | 0, j, hj => by
    obtain rfl : j = r.length := by omega
    rw [List.drop_length]
    refine ⟨fun h => absurd rfl h, fun _ => .last (rck_round l.length c r.length d (pc l) (pc r) fl ce r.length 0 0 0 (by omega) hm (pc_len r) (fun h => by omega) (fun h => by omega) _ (fun h => by omega) (fun h => by omega) (fun h => by omega) (fun _ => out_eq)) (by intro h; cases h)⟩
  | k + 1, j, hj => by
    have ih := rck_rounds (c := c) (d := d) (fl := fl) (ce := ce) hl hm k (j + 1) (by omega)
    have hlt : j < r.length := by omega
    have h64 := simpleV_zero hl
    have round := rck_round l.length c r.length d (pc l) (pc r) fl ce j _ _ _ (by omega) hm (pc_len r) (fun _ => ptAt_of hlt) (fun _ ho => rinside_done (l := l) (c := c) (p := (pt r j).f0) (q := (pt r j).f1) (by omega) h64.2.1 h64.2.2.1 ((outP_eq _ _).1 ho))
    simp only [Bool.not_not] at round
    rw [rallyV_step hlt]
    by_cases ho : outP ⟨(pt r j).f0, (pt r j).f1⟩ = true
    · simp only [if_pos ho] at round ⊢
      exact ⟨fun _ => .last (round _ (fun _ _ => out_eq) (fun _ h => absurd ho h) (fun _ h => absurd ho h) (fun h => absurd (by omega) h)) (by intro h; cases h), fun h => absurd h (by omega)⟩
    · have hi := (outP_eq _ _).1 (bne_true ho)
      rw [inside_same hl hi] at round
      simp only [if_neg ho] at round ⊢
      by_cases hs : sideV l (pt r j).f0 (pt r j).f1 = 1
      · simp only [if_pos hs]
        have go : ∀ o, LoopSpec Try.prog 2 rck_l (frK ((j + 1 : Nat) : Int)) (hpC l.length c r.length d (pc l) (pc r) fl ce) o → LoopSpec Try.prog 2 rck_l (frK j) (hpC l.length c r.length d (pc l) (pc r) fl ce) o := fun o h =>
          .more (o1 := ⟨.normal, frK ((j + 1 : Nat) : Int), hpC l.length c r.length d (pc l) (pc r) fl ce, []⟩) (round _ (fun _ h => absurd h ho) (fun _ _ h => absurd hs h) (fun _ _ _ => out_eq) (fun h => absurd (by omega) h)) rfl h (fun j hj => by cases hj)
        exact ⟨fun h => go _ (ih.1 h), fun h => go _ (ih.2 h)⟩
      · simp only [if_neg hs]
        exact ⟨fun _ => .last (round _ (fun _ h => absurd h ho) (fun _ _ _ => out_eq) (fun _ _ h => absurd hs h) (fun h => absurd (by omega) h)) (by intro h; cases h), fun h => absurd h (by omega)⟩
theorem checkV_e {l r : List S23} {fl ce : Int} (h : simpleV l ≠ 0) : checkV l r fl ce = simpleV l := by rw [checkV, if_neg h]
theorem checkV_l {l r : List S23} {fl ce : Int} (h : simpleV l = 0) (h2 : limV r.length fl ce ≠ 0) : checkV l r fl ce = limV r.length fl ce := by rw [checkV, if_pos h, if_neg h2]
theorem checkV_r {l r : List S23} {fl ce : Int} (h : simpleV l = 0) (h2 : limV r.length fl ce = 0) : checkV l r fl ce = rallyV l r := by rw [checkV, if_pos h, if_pos h2]
theorem rcheck_bb (l r : List S23) (c d : Nat) (fl ce : Int) : CallSpec Try.prog 19 [fV (slB 0 l.length c) fl ce (slB 1 r.length d)] [.ro 39 (pc l), .ro 39 (pc r)] ⟨.int .i64 (checkV l r fl ce), [.ro 39 (pc l), .ro 39 (pc r)], []⟩ := by
  have hs := rsimple_done l c
  rw [refV_simple] at hs
  by_cases h1 : simpleV l = 0
  · rw [h1] at hs
    have L := rlim (m := r.length) (fl := fl) (ce := ce)
    have cl : ∀ {v : Int}, v ≠ 0 → limV r.length fl ce = v → v = checkV l r fl ce := fun hv h => by rw [checkV_l h1 (by rw [h]; exact hv), h]
    by_cases hm : r.length ≤ 8
    · have h := rck_rounds (c := c) (d := d) (fl := fl) (ce := ce) h1 hm r.length 0 (by omega)
      rw [List.drop_zero] at h
      by_cases h3 : rallyV l r = 0
      · refine rck_bb_F _ _ _ _ _ _ _ _ hm hs (h.2 h3).code _ (fun a => res_i (cl (by decide) (L.1 a))) (fun a b => res_i (cl (by decide) (L.2.1 a b))) (fun a b k => res_i (cl (by decide) (L.2.2.1 a b k))) (fun a b k q => res_i (cl (by decide) (L.2.2.2.1 a b q))) (fun a b k q => res_i ?_)
        rw [checkV_r h1 (L.2.2.2.2.2 a b k q (by omega)), h3]
      · refine rck_bb_T _ _ _ _ _ _ _ _ _ hm hs (h.1 h3).code _ (fun a => res_i (cl (by decide) (L.1 a))) (fun a b => res_i (cl (by decide) (L.2.1 a b))) (fun a b k => res_i (cl (by decide) (L.2.2.1 a b k))) (fun a b k q => res_i (cl (by decide) (L.2.2.2.1 a b q))) (fun a b k q => res_i ?_)
        rw [checkV_r h1 (L.2.2.2.2.2 a b k q (by omega))]
    · exact rck_bb_m _ _ _ _ _ _ _ _ (by omega) hs _ (fun a => res_i (cl (by decide) (L.1 a))) (fun a b => res_i (cl (by decide) (L.2.1 a b))) (fun a b k => res_i (cl (by decide) (L.2.2.1 a b k))) (fun a b k q => res_i (cl (by decide) (L.2.2.2.1 a b q))) (fun a b k q => res_i (cl (by decide) (L.2.2.2.2.1 a b k q (by omega))))
  · rw [checkV_e h1]
    exact rck_bb_e _ _ _ _ _ _ _ _ _ h1 hs _ res_refl
theorem rcheck_b0 {l : List S23} {fl ce : Int} {R : Res} (hs : ∀ v, v = checkV l [] fl ce → Res.le ⟨.int .i64 v, R.hp, []⟩ R) :
    ((h0 : ¬ simpleV l = 0) → Res.le ⟨.int .i64 (simpleV l), R.hp, []⟩ R) ∧ ((h0 : ¬ (¬ simpleV l = 0)) → (h1 : (!inQ fl) = true) → Res.le ⟨.int .i64 5, R.hp, []⟩ R) ∧ ((h0 : ¬ (¬ simpleV l = 0)) → (h1 : ¬ (!inQ fl) = true) → (h2 : (!inQ ce) = true) → Res.le ⟨.int .i64 5, R.hp, []⟩ R) ∧
    ((h0 : ¬ (¬ simpleV l = 0)) → (h1 : ¬ (!inQ fl) = true) → (h2 : ¬ (!inQ ce) = true) → (h3 : fl > 0) → Res.le ⟨.int .i64 100, R.hp, []⟩ R) ∧ ((h0 : ¬ (¬ simpleV l = 0)) → (h1 : ¬ (!inQ fl) = true) → (h2 : ¬ (!inQ ce) = true) → (h3 : ¬ fl > 0) → (h4 : ce ≤ 0) → Res.le ⟨.int .i64 100, R.hp, []⟩ R) ∧
    ((h0 : ¬ (¬ simpleV l = 0)) → (h1 : ¬ (!inQ fl) = true) → (h2 : ¬ (!inQ ce) = true) → (h3 : ¬ fl > 0) → (h4 : ¬ ce ≤ 0) → Res.le ⟨.int .i64 0, R.hp, []⟩ R) := by
  have L := rlim (m := ([] : List S23).length) (fl := fl) (ce := ce)
  have cl : ∀ {v : Int}, ¬ (¬ simpleV l = 0) → v ≠ 0 → limV ([] : List S23).length fl ce = v → v = checkV l [] fl ce := fun h1 hv h => by rw [checkV_l (by omega) (by rw [h]; exact hv), h]
  refine ⟨fun h => hs _ (checkV_e h).symm, fun h a => hs _ (cl h (by decide) (L.1 a)), fun h a b => hs _ (cl h (by decide) (L.2.1 a b)), fun h a b k => hs _ (cl h (by decide) (L.2.2.1 a b k)), fun h a b k q => hs _ (cl h (by decide) (L.2.2.2.1 a b q)), fun h a b k q => hs _ ?_⟩
  rw [checkV_r (by omega) (L.2.2.2.2.2 a b k q (by decide)), rallyV]
theorem rcheck_done (P R : Pk) (fl ce : Int) : CallSpec Try.prog 19 [fA P R fl ce] (fH P R) ⟨.int .i64 (checkV P.list R.list fl ce), fH P R, []⟩ := by
  cases P with
  | nil =>
    cases R with
    | nil => exact rck_nn _ _ _ res_refl
    | emp => exact rck_nd _ _ _ res_refl
    | pts r => exact rck_nb _ _ _ _ _ _ res_refl
  | emp =>
    cases R with
    | nil => exact rck_dn _ _ _ res_refl
    | emp => exact rck_dd _ _ _ res_refl
    | pts r => exact rck_db _ _ _ _ _ _ res_refl
  | pts l =>
    have hs := rsimple_done l l.length
    rw [refV_simple] at hs
    cases R with
    | nil =>
      obtain ⟨k1, k2, k3, k4, k5, k6⟩ := rcheck_b0 (l := l) (fl := fl) (ce := ce) (R := ⟨.int .i64 (checkV l [] fl ce), [.ro 39 (pc l)], []⟩) (fun v hv => res_i hv)
      exact rck_bn _ _ _ _ _ _ hs _ k1 k2 k3 k4 k5 k6
    | emp =>
      obtain ⟨k1, k2, k3, k4, k5, k6⟩ := rcheck_b0 (l := l) (fl := fl) (ce := ce) (R := ⟨.int .i64 (checkV l [] fl ce), [.ro 39 (pc l), .dead], []⟩) (fun v hv => res_i hv)
      exact rck_bd _ _ _ _ _ _ hs _ k1 k2 k3 k4 k5 k6
    | pts r => exact rcheck_bb l r _ _ fl ce
end Go.Proofs.Ytjalkjeldlchoaa.Ex
end
section
set_option linter.unusedSectionVars false
set_option linter.unusedSimpArgs false
set_option linter.unusedVariables false
namespace Go.Proofs.Ytjalkjeldlchoaa.Ex
open Go
set_option linter.unusedVariables false
theorem spare_nil_p  : go (exec (Try.prog) (8) (35) ([slN]) ([])) [] = some (.mk ((sB 0 0 1)) [.own 39 [.int .i64 (-77), .int .i64 (-77)]] [], true, []) := by kernel_rfl
theorem spare_nil  (R : Res) (k_p : Res.le (.mk ((sB 0 0 1)) [.own 39 [.int .i64 (-77), .int .i64 (-77)]] []) R) : CallSpec (Try.prog) (35) ([slN]) ([]) R := by
  exact (CallSpec.id (go_ok (exec_ok tnamed tcalm tmixed _ _ _ _) (spare_nil_p ) aN)).le (k_p )
theorem spare_emp_p  : go (exec (Try.prog) (8) (35) ([slD 0]) ([.dead])) [] = some (.mk ((sB 1 0 1)) [.dead, .own 39 [.int .i64 (-77), .int .i64 (-77)]] [], true, []) := by kernel_rfl
theorem spare_emp  (R : Res) (k_p : Res.le (.mk ((sB 1 0 1)) [.dead, .own 39 [.int .i64 (-77), .int .i64 (-77)]] []) R) : CallSpec (Try.prog) (35) ([slD 0]) ([.dead]) R := by
  exact (CallSpec.id (go_ok (exec_ok tnamed tcalm tmixed _ _ _ _) (spare_emp_p ) aN)).le (k_p )
section
variable (n : Nat) (cs : List Value) (hn : n * 16 ≤ 140737488351232) (hl : List.length cs = n * 2) (hf : List.all cs flat1 = true)
include n cs hn hl hf
theorem spare_pts_pt : go (exec (Try.prog) (8) (35) ([slB 0 n n]) ([.ro 39 cs])) [(7, Itm.must), (1, Itm.must), (0, .dec true), (42, Itm.must)] = some (.mk (.slice (some (.mk 1 0 none)) (Int.toNat (↑n : Int) - 0) 1) [.ro 39 cs, .own 39 [.int .i64 (-77), .int .i64 (-77)]] [], true, [decide (0 + n * 2 ≤ List.length cs) = true, (decide (n * 16 ≤ 140737488355328) && decide (n ≤ 140737488355328)) = true, decide (n = 0) = true, upto (↑n : Int) 1 = true]) := by kernel_rfl
theorem spare_pts_pf : go (exec (Try.prog) (8) (35) ([slB 0 n n]) ([.ro 39 cs])) [(7, Itm.must), (1, Itm.must), (0, .dec false), (34, Itm.must), (0, .dec false), (0, Itm.must), (6, Itm.must)] = some (.mk (.slice (some (.mk 1 0 none)) (Int.toNat (↑n : Int) - 0) (n + 1 - 0)) [.ro 39 cs, .own 39 (List.take (n * 2) (List.drop 0 cs) ++ [.int .i64 (-77), .int .i64 (-77)])] [], true, [decide (0 + n * 2 ≤ List.length cs) = true, (decide (n * 16 ≤ 140737488355328) && decide (n ≤ 140737488355328)) = true, decide (n = 0) = false, (true && decide ((n + 1) * 16 ≤ 140737488355328) && decide (n + 1 ≤ 140737488355328) && decide (n * 2 ≤ List.length (List.take (n * 2) (List.drop 0 cs)))) = true, decide (n + 1 ≤ n) = false, decide (List.length (List.take (n * 2) (List.drop 0 cs)) = n * 2) = true, upto (↑n : Int) (n + 1) = true]) := by kernel_rfl
theorem spare_pts (R : Res) (k_pt : (h0 : n = 0) → Res.le (.mk (.slice (some (.mk 1 0 none)) (Int.toNat (↑n : Int) - 0) 1) [.ro 39 cs, .own 39 [.int .i64 (-77), .int .i64 (-77)]] []) R) (k_pf : (h0 : ¬ (n = 0)) → Res.le (.mk (.slice (some (.mk 1 0 none)) (Int.toNat (↑n : Int) - 0) (n + 1 - 0)) [.ro 39 cs, .own 39 (List.take (n * 2) (List.drop 0 cs) ++ [.int .i64 (-77), .int .i64 (-77)])] []) R) : CallSpec (Try.prog) (35) ([slB 0 n n]) ([.ro 39 cs]) R := by
  by_cases h0 : n = 0
  · exact (CallSpec.id (go_ok (exec_ok tnamed tcalm tmixed _ _ _ _) (spare_pts_pt n cs hn hl hf ) (aC dO (aC ((by simp [ByteArray.size_append, ByteArray.size_extract, sz_mk] <;> omega)) (aC (dT h0) (aC (upto_of (by omega)) aN)))))).le (k_pt h0)
  · exact (CallSpec.id (go_ok (exec_ok tnamed tcalm tmixed _ _ _ _) (spare_pts_pf n cs hn hl hf ) (aC dO (aC ((by simp [ByteArray.size_append, ByteArray.size_extract, sz_mk] <;> omega)) (aC (dF h0) (aC ((by simp [ByteArray.size_append, ByteArray.size_extract, sz_mk] <;> omega)) (aC dN (aC (dT (by simp [ByteArray.size_append, ByteArray.size_extract, sz_mk] <;> omega)) (aC (upto_of (by omega)) aN))))))))).le (k_pf h0)
end
end Go.Proofs.Ytjalkjeldlchoaa.Ex
end
section
set_option linter.unusedSectionVars false
set_option linter.unusedSimpArgs false
set_option linter.unusedVariables false
namespace Go.Proofs.Ytjalkjeldlchoaa.Ex
open Go Go.RowKit Go.Proofs.Ytjalkjeldlchoaa.X
set_option linter.unusedVariables false
def mkP : List Value := [.int .i64 (-77), .int .i64 (-77)]
abbrev lentB (l : List S23) : Blk := .own 39 (pc l ++ mkP)
abbrev lentV (b n : Nat) : Value := .slice (some ⟨b, 0, none⟩) n (n + 1)
theorem spare_done (P : Pk) (hl : P.list.length * 16 ≤ 140737488351232) : CallSpec Try.prog 35 [P.val 0] P.hp ⟨lentV P.hp.length P.list.length, P.hp ++ [lentB P.list], []⟩ := by
  cases P with
  | nil => exact spare_nil _ res_refl
  | emp => exact spare_emp _ res_refl
  | pts l =>
    refine spare_pts _ _ hl (pc_len l) (pc_flat l) _ (fun h => ?_) (fun h => ?_)
    · have e : l = [] := List.length_eq_zero_iff.1 h
      subst e
      exact res_refl
    · refine ⟨?_, ?_, fun j hj => hj⟩
      · show Value.slice _ _ _ = Value.slice _ _ _
        congr 1
      · show [Blk.ro 39 (pc l), Blk.own 39 _] = [Blk.ro 39 (pc l), Blk.own 39 _]
        rw [List.drop_zero, List.take_of_length_le (by rw [pc_len]; exact Nat.le_refl _)]
        rfl
end Go.Proofs.Ytjalkjeldlchoaa.Ex
end
section
set_option linter.unusedSectionVars false
set_option linter.unusedSimpArgs false
set_option linter.unusedVariables false
namespace Go.Proofs.Ytjalkjeldlchoaa.Ex
open Go
set_option linter.unusedVariables false
noncomputable def sp_l : Code := loopAt Try.prog 67 0
theorem sp_l_calm : calmC sp_l = true := loopAt_calm tcalm 67 0
noncomputable def sp_lC : Code := .loop sp_l
def frP (n c d : Nat) (i : Int) : Fr := frOf 26 [(0, slB 0 n c), (1, slB 1 n d), (5, .int .i64 i)]
section
variable (n c d : Nat) (cs ds : List Value) (i x y : Int) (hi : 0 ≤ i ∧ i ≤ (↑n : Int)) (hn : n ≤ 1099511627776000) (hc : n * 2 ≤ List.length cs) (hd : n * 2 ≤ List.length ds) (hA : i < (↑n : Int) → ptAt cs i x y) (hB : i < (↑n : Int) → ptAt ds i x y)
include n c d cs ds i x y hi hn hc hd hA hB
theorem sp_round_pt : go (body (Try.prog) (8) (2) (8) (fun x_1 => [0, 1, 5]) (sp_l) (frP n c d i) ([.ro 39 cs, .ro 39 ds])) [(5, .dec true), (2, Itm.must), (1, Itm.must), (0, Itm.val ((a2 x y))), (2, Itm.must), (1, Itm.must), (0, Itm.val ((a2 x y))), (3, .dec false), (1, Itm.val (.int .i64 (i + 1)))] = some (Out.mk Xt.normal (frOf 26 [(0, (sB 0 n c)), (1, (sB 1 n d)), (5, .int .i64 (i + 1))]) [.ro 39 cs, .ro 39 ds] [], true, [decide (i < (↑n : Int)) = true, inside i n = true, decide (0 + Int.toNat i * 2 + 2 ≤ List.length cs) = true, Value.agg (List.toArray (List.take 2 (List.drop (0 + Int.toNat i * 2) cs))) = (a2 x y), inside i n = true, decide (0 + Int.toNat i * 2 + 2 ≤ List.length ds) = true, Value.agg (List.toArray (List.take 2 (List.drop (0 + Int.toNat i * 2) ds))) = (a2 x y), (!(decide (x = x) && (decide (y = y) && true))) = false, Value.int .i64 (IntKind.wrap .i64 (i + 1)) = .int .i64 (i + 1)]) := by kernel_rfl
theorem sp_round_pf : go (body (Try.prog) (8) (2) (8) (fun x_1 => [0, 1, 5]) (sp_l) (frP n c d i) ([.ro 39 cs, .ro 39 ds])) [(5, .dec false)] = some (Out.mk (Xt.exit 0) (frOf 26 [(0, (sB 0 n c)), (1, (sB 1 n d)), (5, .int .i64 i)]) [.ro 39 cs, .ro 39 ds] [], true, [decide (i < (↑n : Int)) = false]) := by kernel_rfl
theorem sp_round (R : Out) (k_pt : (h0 : i < (↑n : Int)) → Out.le (Out.mk Xt.normal (frOf 26 [(0, (sB 0 n c)), (1, (sB 1 n d)), (5, .int .i64 (i + 1))]) [.ro 39 cs, .ro 39 ds] []) R) (k_pf : (h0 : ¬ (i < (↑n : Int))) → Out.le (Out.mk (Xt.exit 0) (frOf 26 [(0, (sB 0 n c)), (1, (sB 1 n d)), (5, .int .i64 i)]) [.ro 39 cs, .ro 39 ds] []) R) : CodeSpec (Try.prog) (2) (sp_l) (frP n c d i) ([.ro 39 cs, .ro 39 ds]) R := by
  by_cases h0 : i < (↑n : Int)
  · exact (CodeSpec.id (go_ok (body_ok tnamed tcalm tmixed _ _ _ _ _ _ sp_l_calm) (sp_round_pt n c d cs ds i x y hi hn hc hd hA hB ) (aC (dT h0) (aC (inside_of (by omega)) (aC dO (aC ((hA (by omega))) (aC (inside_of (by omega)) (aC dO (aC ((hB (by omega))) (aC ((bF (by simp; done))) (aC (congrArg (Value.int _) (Go.IntWalk.i64_in _ (by omega))) aN))))))))))).le (k_pt h0)
  · exact (CodeSpec.id (go_ok (body_ok tnamed tcalm tmixed _ _ _ _ _ _ sp_l_calm) (sp_round_pf n c d cs ds i x y hi hn hc hd hA hB ) (aC (dF h0) aN))).le (k_pf h0)
end
section
variable (n c d : Nat) (cs ds : List Value) (hL : CodeSpec Try.prog 2 sp_lC (frP n c d 0) [.ro 39 cs, .ro 39 ds] (Out.mk (Xt.exit 0) (frP n c d (↑n : Int)) [.ro 39 cs, .ro 39 ds] []))
include n c d cs ds hL
theorem sp_bb_p : go (exec (Try.prog) (8) (67) ([slB 0 n c, slB 1 n d]) ([.ro 39 cs, .ro 39 ds])) [(9, .dec false), (2, Itm.loop [0, 1, 5] (Out.mk (Xt.exit 0) (frOf 26 [(0, (sB 0 n c)), (1, (sB 1 n d)), (5, .int .i64 (↑n : Int))]) [.ro 39 cs, .ro 39 ds] []))] = some (.mk (.bool true) [.ro 39 cs, .ro 39 ds] [], true, [(!decide ((↑n : Int) = (↑n : Int))) = false, type_of% hL]) := by kernel_rfl
theorem sp_bb (R : Res) (k_p : Res.le (.mk (.bool true) [.ro 39 cs, .ro 39 ds] []) R) : CallSpec (Try.prog) (67) ([slB 0 n c, slB 1 n d]) ([.ro 39 cs, .ro 39 ds]) R := by
  exact (CallSpec.id (go_ok (exec_ok tnamed tcalm tmixed _ _ _ _) (sp_bb_p n c d cs ds hL ) (aC (congrArg not dO) (aC (hL) aN)))).le (k_p )
end
section
variable (c : Nat) (cs : List Value)
include c cs
theorem sp_bn_p : go (exec (Try.prog) (8) (67) ([slB 0 0 c, slN]) ([.ro 39 cs])) [] = some (.mk (.bool true) [.ro 39 cs] [], true, []) := by kernel_rfl
theorem sp_bn (R : Res) (k_p : Res.le (.mk (.bool true) [.ro 39 cs] []) R) : CallSpec (Try.prog) (67) ([slB 0 0 c, slN]) ([.ro 39 cs]) R := by
  exact (CallSpec.id (go_ok (exec_ok tnamed tcalm tmixed _ _ _ _) (sp_bn_p c cs ) aN)).le (k_p )
end
section
variable (c : Nat) (cs : List Value)
include c cs
theorem sp_bd_p : go (exec (Try.prog) (8) (67) ([slB 0 0 c, slD 1]) ([.ro 39 cs, .dead])) [] = some (.mk (.bool true) [.ro 39 cs, .dead] [], true, []) := by kernel_rfl
theorem sp_bd (R : Res) (k_p : Res.le (.mk (.bool true) [.ro 39 cs, .dead] []) R) : CallSpec (Try.prog) (67) ([slB 0 0 c, slD 1]) ([.ro 39 cs, .dead]) R := by
  exact (CallSpec.id (go_ok (exec_ok tnamed tcalm tmixed _ _ _ _) (sp_bd_p c cs ) aN)).le (k_p )
end
end Go.Proofs.Ytjalkjeldlchoaa.Ex
end
section
set_option linter.unusedSectionVars false
set_option linter.unusedSimpArgs false
set_option linter.unusedVariables false
namespace Go.Proofs.Ytjalkjeldlchoaa.Ex
open Go Go.RowKit Go.Proofs.Ytjalkjeldlchoaa.X
set_option linter.unusedVariables false
theorem ptAt_app {l : List S23} {x : List Value} {i : Nat} (h : i < l.length) : ptAt (pc l ++ x) (i : Int) (pt l i).f0 (pt l i).f1 := by
  have e := ptAt_of h
  unfold ptAt at *
  rw [Int.toNat_natCast, Nat.zero_add] at *
  rw [List.drop_append_of_le_length (by rw [pc_len]; omega), List.take_append_of_le_length (by rw [List.length_drop, pc_len]; omega)]
  exact e
theorem ptAt_end (l : List S23) (a b : Int) (x : List Value) : ptAt (pc l ++ (.int .i64 a :: .int .i64 b :: x)) (l.length : Int) a b := by
  unfold ptAt
  rw [Int.toNat_natCast, Nat.zero_add, ← pc_len, List.drop_left]
  rfl
theorem sp_rounds {l : List S23} {c d : Nat} {x y : List Value} (hn : l.length ≤ 1099511627776000) : ∀ (k j : Nat), j + k = l.length →
    LoopSpec Try.prog 2 sp_l (frP l.length c d j) [.ro 39 (pc l ++ x), .ro 39 (pc l ++ y)] ⟨.exit 0, frP l.length c d l.length, [.ro 39 (pc l ++ x), .ro 39 (pc l ++ y)], []⟩
  | 0, j, hj => by
    obtain rfl : j = l.length := by omega
    exact .last (sp_round l.length c d _ _ l.length 0 0 (by omega) hn (by rw [List.length_append, pc_len]; omega) (by rw [List.length_append, pc_len]; omega) (fun h => by omega) (fun h => by omega) _ (fun h => by omega) (fun _ => out_eq)) (by intro h; cases h)
  | k + 1, j, hj => .more (o1 := ⟨.normal, frP l.length c d ((j + 1 : Nat) : Int), [.ro 39 (pc l ++ x), .ro 39 (pc l ++ y)], []⟩) (sp_round l.length c d _ _ j _ _ (by omega) hn (by rw [List.length_append, pc_len]; omega) (by rw [List.length_append, pc_len]; omega) (fun _ => ptAt_app (by omega)) (fun _ => ptAt_app (by omega)) _ (fun _ => out_eq) (fun h => absurd (by omega) h)) rfl (sp_rounds hn k (j + 1) (by omega)) (fun j hj => by cases hj)
theorem sp_done {l : List S23} {c d : Nat} {x y : List Value} (hn : l.length ≤ 1099511627776000) : CallSpec Try.prog 67 [slB 0 l.length c, slB 1 l.length d] [.ro 39 (pc l ++ x), .ro 39 (pc l ++ y)] ⟨.bool true, [.ro 39 (pc l ++ x), .ro 39 (pc l ++ y)], []⟩ :=
  sp_bb _ _ _ _ _ (sp_rounds hn l.length 0 (by omega)).code _ res_refl
theorem soft_cons {b b' : Blk} {h h' : Hp} (hb : Softer b b') (hh : ∀ id, Softer (h.getD id .dead) (h'.getD id .dead)) : ∀ id, Softer ((b :: h).getD id .dead) ((b' :: h').getD id .dead)
  | 0 => hb
  | id + 1 => hh id
theorem soft_same (h : Hp) : ∀ id, Softer (h.getD id .dead) (h.getD id .dead) := fun _ => .inl rfl
theorem soft_own {e : TypeId} {cs : List Value} : Softer (.ro e cs) (.own e cs) := .inr ⟨e, cs, rfl, rfl⟩
theorem CallSpec.softer {P : Program} {f : FuncId} {args : List Value} {hp hp' : Hp} {v : Value} (h : CallSpec P f args hp ⟨v, hp, []⟩) (hv : flat v = true) (hl : hp.length = hp'.length) (hs : ∀ id, Softer (hp.getD id .dead) (hp'.getD id .dead)) : CallSpec P f args hp' ⟨v, hp', []⟩ := CallSpec.soft hv hl hs h
theorem sp_lent (P : Pk) (hn : P.list.length ≤ 1099511627776000) : CallSpec Try.prog 67 [lentV 0 P.list.length, P.val 1] (lentB P.list :: P.hp) ⟨.bool true, lentB P.list :: P.hp, []⟩ := by
  cases P with
  | nil => exact (sp_bn 1 (pc [] ++ mkP) _ res_refl).softer rfl rfl (soft_cons soft_own (soft_same _))
  | emp => exact (sp_bd 1 (pc [] ++ mkP) _ res_refl).softer rfl rfl (soft_cons soft_own (soft_same _))
  | pts l =>
    have h := sp_done (l := l) (c := l.length + 1) (d := l.length) (x := mkP) (y := []) hn
    rw [List.append_nil] at h
    exact h.softer rfl rfl (soft_cons soft_own (soft_same _))
end Go.Proofs.Ytjalkjeldlchoaa.Ex
end
section
set_option linter.unusedSectionVars false
set_option linter.unusedSimpArgs false
set_option linter.unusedVariables false
namespace Go.Proofs.Ytjalkjeldlchoaa.X
open Go Go.RowKit
def l0 : List S23 := [⟨0, 0⟩, ⟨100, 0⟩, ⟨100, 100⟩, ⟨0, 100⟩]
def r0 : List S23 := [⟨10, 10⟩, ⟨90, 90⟩, ⟨50, 50⟩]
end Go.Proofs.Ytjalkjeldlchoaa.X
namespace Go.Proofs.Ytjalkjeldlchoaa.Ex
open Go Go.RowKit Go.Proofs.Ytjalkjeldlchoaa.X
set_option linter.unusedVariables false
abbrev cs0 : List Value := [.int .i64 0, .int .i64 0, .int .i64 100, .int .i64 0, .int .i64 100, .int .i64 100, .int .i64 0, .int .i64 100]
abbrev rs0 : List Value := [.int .i64 10, .int .i64 10, .int .i64 90, .int .i64 90, .int .i64 50, .int .i64 50]
abbrev hp0 : Hp := [.own 39 cs0, .own 39 rs0]
abbrev f0 : Value := fV (slB 0 4 4) (-5) 50 (slB 1 3 3)
abbrev s66 : ByteArray := ByteArray.mk #[UInt8.ofNat 4, UInt8.ofNat 0, UInt8.ofNat 0, UInt8.ofNat 0, UInt8.ofNat 0, UInt8.ofNat 0, UInt8.ofNat 0, UInt8.ofNat 0, UInt8.ofNat 0, UInt8.ofNat 100, UInt8.ofNat 0, UInt8.ofNat 0, UInt8.ofNat 0, UInt8.ofNat 0, UInt8.ofNat 0, UInt8.ofNat 0, UInt8.ofNat 0, UInt8.ofNat 100, UInt8.ofNat 0, UInt8.ofNat 0, UInt8.ofNat 0, UInt8.ofNat 100, UInt8.ofNat 0, UInt8.ofNat 0, UInt8.ofNat 0, UInt8.ofNat 0, UInt8.ofNat 0, UInt8.ofNat 0, UInt8.ofNat 0, UInt8.ofNat 100, UInt8.ofNat 0, UInt8.ofNat 0, UInt8.ofNat 0, UInt8.ofNat 251, UInt8.ofNat 255, UInt8.ofNat 255, UInt8.ofNat 255, UInt8.ofNat 50, UInt8.ofNat 0, UInt8.ofNat 0, UInt8.ofNat 0, UInt8.ofNat 3, UInt8.ofNat 10, UInt8.ofNat 0, UInt8.ofNat 0, UInt8.ofNat 0, UInt8.ofNat 10, UInt8.ofNat 0, UInt8.ofNat 0, UInt8.ofNat 0, UInt8.ofNat 90, UInt8.ofNat 0, UInt8.ofNat 0, UInt8.ofNat 0, UInt8.ofNat 90, UInt8.ofNat 0, UInt8.ofNat 0, UInt8.ofNat 0, UInt8.ofNat 50, UInt8.ofNat 0, UInt8.ofNat 0, UInt8.ofNat 0, UInt8.ofNat 50, UInt8.ofNat 0, UInt8.ofNat 0, UInt8.ofNat 0]
theorem soft0 : ∀ id, Softer ([Blk.ro 39 (pc l0), .ro 39 (pc r0)].getD id .dead) (hp0.getD id .dead) := soft_cons soft_own (soft_cons soft_own (soft_same []))
theorem lm0 : l0.length ≤ 9223372036854775807 := by decide
theorem aw_check : CallSpec Try.prog 18 [f0] hp0 ⟨.int .i64 0, hp0, []⟩ := by
  have h := CallSpec.softer (hp' := hp0) (check_bb (l := l0) (r := r0) (c := 4) (d := 3) (fl := -5) (ce := 50) lm0) rfl rfl soft0
  rw [show checkV l0 r0 (-5) 50 = 0 by kernel_rfl] at h
  exact h
theorem aw_h1 : CallSpec Try.prog 21 [f0, boxV 1 99 1 99 (-5) 50] hp0 ⟨.tuple #[.bool true, .int .i64 0], hp0, []⟩ := by
  have h := CallSpec.softer (hp' := hp0) (holds_bb (l := l0) (r := r0) (c := 4) (d := 3) (fl := -5) (ce := 50) lm0 1 99 1 99 (-5) 50) rfl rfl soft0
  rw [show holdB l0 r0 (-5) 50 1 99 1 99 (-5) 50 = true by kernel_rfl, show holdE l0 r0 (-5) 50 1 99 1 99 (-5) 50 = 0 by kernel_rfl] at h
  exact h
theorem aw_h2 : CallSpec Try.prog 21 [f0, boxV 0 99 1 99 (-5) 50] hp0 ⟨.tuple #[.bool false, .int .i64 0], hp0, []⟩ := by
  have h := CallSpec.softer (hp' := hp0) (holds_bb (l := l0) (r := r0) (c := 4) (d := 3) (fl := -5) (ce := 50) lm0 0 99 1 99 (-5) 50) rfl rfl soft0
  rw [show holdB l0 r0 (-5) 50 0 99 1 99 (-5) 50 = false by kernel_rfl, show holdE l0 r0 (-5) 50 0 99 1 99 (-5) 50 = 0 by kernel_rfl] at h
  exact h
theorem aw_l1 : CallSpec Try.prog 23 [f0, pV 10 10, pV 90 90, .int .i64 9] hp0 ⟨.tuple #[.bool true, .int .i64 0], hp0, []⟩ := by
  have h := CallSpec.softer (hp' := hp0) (Lane_bb (l := l0) (r := r0) (c := 4) (d := 3) (fl := -5) (ce := 50) lm0 10 10 90 90 9) rfl rfl soft0
  rw [show LaneB l0 r0 (-5) 50 10 10 90 90 9 = true by kernel_rfl, show LaneE l0 r0 (-5) 50 10 10 90 90 9 = 0 by kernel_rfl] at h
  exact h
theorem aw_l2 : CallSpec Try.prog 23 [f0, pV 10 10, pV 90 90, .int .i64 10] hp0 ⟨.tuple #[.bool false, .int .i64 0], hp0, []⟩ := by
  have h := CallSpec.softer (hp' := hp0) (Lane_bb (l := l0) (r := r0) (c := 4) (d := 3) (fl := -5) (ce := 50) lm0 10 10 90 90 10) rfl rfl soft0
  rw [show LaneB l0 r0 (-5) 50 10 10 90 90 10 = false by kernel_rfl, show LaneE l0 r0 (-5) 50 10 10 90 90 10 = 0 by kernel_rfl] at h
  exact h
theorem aw_r : CallSpec Try.prog 25 [f0, pV 70 70, .int .i64 15] hp0 ⟨.tuple #[.int .i64 2, .int .i64 0], hp0, []⟩ := by
  have h := CallSpec.softer (hp' := hp0) (rally_bb (l := l0) (r := r0) (c := 4) (d := 3) (fl := -5) (ce := 50) lm0 70 70 15) rfl rfl soft0
  rw [show RallyA (fun x => laneV l0 70 70 x.f0 x.f1 15) l0 r0 (-5) 50 70 70 15 = 2 by kernel_rfl, show RallyE l0 r0 (-5) 50 70 70 15 = 0 by kernel_rfl] at h
  exact h
theorem aw_e : CallSpec Try.prog 27 [f0] hp0 ⟨.tuple #[.string s66, .int .i64 0], hp0, []⟩ := by
  have h := CallSpec.softer (hp' := hp0) (encode_bb (l := l0) (r := r0) (c := 4) (d := 3) (fl := -5) (ce := 50) lm0) rfl rfl soft0
  rw [show encT l0 r0 (-5) 50 = s66 by kernel_rfl, show checkV l0 r0 (-5) 50 = 0 by kernel_rfl] at h
  exact h
theorem aw_few : CallSpec Try.prog 18 [fV (.slice none 0 0) 0 0 (.slice none 0 0)] [] ⟨.int .i64 90, [], []⟩ := check_nn 0 0
end Go.Proofs.Ytjalkjeldlchoaa.Ex
end
section
set_option linter.unusedSectionVars false
set_option linter.unusedSimpArgs false
set_option linter.unusedVariables false
namespace Go.Proofs.Ytjalkjeldlchoaa.Ex
open Go Go.RowKit Go.Proofs.Ytjalkjeldlchoaa.X
set_option linter.unusedVariables false
theorem aw_dec_p  : go (exec (Try.prog) (8) (29) ([.string s66]) ([])) [(1977, .call (.mk (.int .i64 0) [.own 39 [.int .i64 0, .int .i64 0, .int .i64 100, .int .i64 0, .int .i64 100, .int .i64 100, .int .i64 0, .int .i64 100], .own 39 [.int .i64 10, .int .i64 10, .int .i64 90, .int .i64 90, .int .i64 50, .int .i64 50]] []))] = some (.mk (.tuple #[.agg #[(sB 0 4 4), .int .i64 (-5), .int .i64 50, (sB 1 3 3)], .int .i64 0]) [.own 39 [.int .i64 0, .int .i64 0, .int .i64 100, .int .i64 0, .int .i64 100, .int .i64 100, .int .i64 0, .int .i64 100], .own 39 [.int .i64 10, .int .i64 10, .int .i64 90, .int .i64 90, .int .i64 50, .int .i64 50]] [], true, [CallSpec Try.prog 18 [.agg #[(sB 0 4 4), .int .i64 (-5), .int .i64 50, (sB 1 3 3)]] [.own 39 [.int .i64 0, .int .i64 0, .int .i64 100, .int .i64 0, .int .i64 100, .int .i64 100, .int .i64 0, .int .i64 100], .own 39 [.int .i64 10, .int .i64 10, .int .i64 90, .int .i64 90, .int .i64 50, .int .i64 50]] (.mk (.int .i64 0) [.own 39 [.int .i64 0, .int .i64 0, .int .i64 100, .int .i64 0, .int .i64 100, .int .i64 100, .int .i64 0, .int .i64 100], .own 39 [.int .i64 10, .int .i64 10, .int .i64 90, .int .i64 90, .int .i64 50, .int .i64 50]] [])]) := by kernel_rfl
theorem aw_dec  (R : Res) (k_p : Res.le (.mk (.tuple #[.agg #[(sB 0 4 4), .int .i64 (-5), .int .i64 50, (sB 1 3 3)], .int .i64 0]) [.own 39 [.int .i64 0, .int .i64 0, .int .i64 100, .int .i64 0, .int .i64 100, .int .i64 100, .int .i64 0, .int .i64 100], .own 39 [.int .i64 10, .int .i64 10, .int .i64 90, .int .i64 90, .int .i64 50, .int .i64 50]] []) R) : CallSpec (Try.prog) (29) ([.string s66]) ([]) R := by
  exact (CallSpec.id (go_ok (exec_ok tnamed tcalm tmixed _ _ _ _) (aw_dec_p ) (aC (aw_check) aN))).le (k_p )
end Go.Proofs.Ytjalkjeldlchoaa.Ex
end
section
set_option linter.unusedSectionVars false
set_option linter.unusedSimpArgs false
set_option linter.unusedVariables false
namespace Go.Proofs.Ytjalkjeldlchoaa.Ex
open Go Go.RowKit Go.Proofs.Ytjalkjeldlchoaa.X
set_option linter.unusedVariables false
def decSum (args : List Value) (hp : Hp) : Res := ⟨.tuple #[fV (slB hp.length 4 4) (-5) 50 (slB (hp.length + 1) 3 3), .int .i64 0], hp ++ [.own 39 cs0, .own 39 rs0], []⟩
theorem aw_d : CallSpec Try.prog 29 [.string s66] [] (decSum [.string s66] []) := aw_dec _ ⟨rfl, rfl, fun _ h => h⟩
theorem awake_w_p  : go (exec (Try.prog) (8) (17) ([]) ([])) [(248, .call (.mk (.tuple #[.bool true, .int .i64 0]) [.own 39 [.int .i64 0, .int .i64 0, .int .i64 100, .int .i64 0, .int .i64 100, .int .i64 100, .int .i64 0, .int .i64 100], .own 39 [.int .i64 10, .int .i64 10, .int .i64 90, .int .i64 90, .int .i64 50, .int .i64 50]] [])), (253, .call (.mk (.tuple #[.bool false, .int .i64 0]) [.own 39 [.int .i64 0, .int .i64 0, .int .i64 100, .int .i64 0, .int .i64 100, .int .i64 100, .int .i64 0, .int .i64 100], .own 39 [.int .i64 10, .int .i64 10, .int .i64 90, .int .i64 90, .int .i64 50, .int .i64 50]] [])), (253, .call (.mk (.tuple #[.bool true, .int .i64 0]) [.own 39 [.int .i64 0, .int .i64 0, .int .i64 100, .int .i64 0, .int .i64 100, .int .i64 100, .int .i64 0, .int .i64 100], .own 39 [.int .i64 10, .int .i64 10, .int .i64 90, .int .i64 90, .int .i64 50, .int .i64 50]] [])), (253, .call (.mk (.tuple #[.bool false, .int .i64 0]) [.own 39 [.int .i64 0, .int .i64 0, .int .i64 100, .int .i64 0, .int .i64 100, .int .i64 100, .int .i64 0, .int .i64 100], .own 39 [.int .i64 10, .int .i64 10, .int .i64 90, .int .i64 90, .int .i64 50, .int .i64 50]] [])), (230, .call (.mk (.tuple #[.int .i64 2, .int .i64 0]) [.own 39 [.int .i64 0, .int .i64 0, .int .i64 100, .int .i64 0, .int .i64 100, .int .i64 100, .int .i64 0, .int .i64 100], .own 39 [.int .i64 10, .int .i64 10, .int .i64 90, .int .i64 90, .int .i64 50, .int .i64 50]] [])), (207, .call (.mk (.tuple #[.string (ByteArray.mk #[UInt8.ofNat 4, UInt8.ofNat 0, UInt8.ofNat 0, UInt8.ofNat 0, UInt8.ofNat 0, UInt8.ofNat 0, UInt8.ofNat 0, UInt8.ofNat 0, UInt8.ofNat 0, UInt8.ofNat 100, UInt8.ofNat 0, UInt8.ofNat 0, UInt8.ofNat 0, UInt8.ofNat 0, UInt8.ofNat 0, UInt8.ofNat 0, UInt8.ofNat 0, UInt8.ofNat 100, UInt8.ofNat 0, UInt8.ofNat 0, UInt8.ofNat 0, UInt8.ofNat 100, UInt8.ofNat 0, UInt8.ofNat 0, UInt8.ofNat 0, UInt8.ofNat 0, UInt8.ofNat 0, UInt8.ofNat 0, UInt8.ofNat 0, UInt8.ofNat 100, UInt8.ofNat 0, UInt8.ofNat 0, UInt8.ofNat 0, UInt8.ofNat 251, UInt8.ofNat 255, UInt8.ofNat 255, UInt8.ofNat 255, UInt8.ofNat 50, UInt8.ofNat 0, UInt8.ofNat 0, UInt8.ofNat 0, UInt8.ofNat 3, UInt8.ofNat 10, UInt8.ofNat 0, UInt8.ofNat 0, UInt8.ofNat 0, UInt8.ofNat 10, UInt8.ofNat 0, UInt8.ofNat 0, UInt8.ofNat 0, UInt8.ofNat 90, UInt8.ofNat 0, UInt8.ofNat 0, UInt8.ofNat 0, UInt8.ofNat 90, UInt8.ofNat 0, UInt8.ofNat 0, UInt8.ofNat 0, UInt8.ofNat 50, UInt8.ofNat 0, UInt8.ofNat 0, UInt8.ofNat 0, UInt8.ofNat 50, UInt8.ofNat 0, UInt8.ofNat 0, UInt8.ofNat 0]), .int .i64 0]) [.own 39 [.int .i64 0, .int .i64 0, .int .i64 100, .int .i64 0, .int .i64 100, .int .i64 100, .int .i64 0, .int .i64 100], .own 39 [.int .i64 10, .int .i64 10, .int .i64 90, .int .i64 90, .int .i64 50, .int .i64 50]] [])), (9, .call (.mk (.tuple #[.agg #[(sB 0 4 4), .int .i64 (-5), .int .i64 50, (sB 1 3 3)], .int .i64 0]) [.own 39 [.int .i64 0, .int .i64 0, .int .i64 100, .int .i64 0, .int .i64 100, .int .i64 100, .int .i64 0, .int .i64 100], .own 39 [.int .i64 10, .int .i64 10, .int .i64 90, .int .i64 90, .int .i64 50, .int .i64 50]] [])), (616, .call (.mk (.int .i64 90) [] []))] = some (.mk (.bool true) [] [], true, [CallSpec Try.prog 21 [.agg #[(sB 0 4 4), .int .i64 (-5), .int .i64 50, (sB 1 3 3)], (a6 1 99 1 99 (-5) 50)] [.own 39 [.int .i64 0, .int .i64 0, .int .i64 100, .int .i64 0, .int .i64 100, .int .i64 100, .int .i64 0, .int .i64 100], .own 39 [.int .i64 10, .int .i64 10, .int .i64 90, .int .i64 90, .int .i64 50, .int .i64 50]] (.mk (.tuple #[.bool true, .int .i64 0]) [.own 39 [.int .i64 0, .int .i64 0, .int .i64 100, .int .i64 0, .int .i64 100, .int .i64 100, .int .i64 0, .int .i64 100], .own 39 [.int .i64 10, .int .i64 10, .int .i64 90, .int .i64 90, .int .i64 50, .int .i64 50]] []), CallSpec Try.prog 21 [.agg #[(sB 0 4 4), .int .i64 (-5), .int .i64 50, (sB 1 3 3)], (a6 0 99 1 99 (-5) 50)] [.own 39 [.int .i64 0, .int .i64 0, .int .i64 100, .int .i64 0, .int .i64 100, .int .i64 100, .int .i64 0, .int .i64 100], .own 39 [.int .i64 10, .int .i64 10, .int .i64 90, .int .i64 90, .int .i64 50, .int .i64 50]] (.mk (.tuple #[.bool false, .int .i64 0]) [.own 39 [.int .i64 0, .int .i64 0, .int .i64 100, .int .i64 0, .int .i64 100, .int .i64 100, .int .i64 0, .int .i64 100], .own 39 [.int .i64 10, .int .i64 10, .int .i64 90, .int .i64 90, .int .i64 50, .int .i64 50]] []), CallSpec Try.prog 23 [.agg #[(sB 0 4 4), .int .i64 (-5), .int .i64 50, (sB 1 3 3)], (a2 10 10), (a2 90 90), .int .i64 9] [.own 39 [.int .i64 0, .int .i64 0, .int .i64 100, .int .i64 0, .int .i64 100, .int .i64 100, .int .i64 0, .int .i64 100], .own 39 [.int .i64 10, .int .i64 10, .int .i64 90, .int .i64 90, .int .i64 50, .int .i64 50]] (.mk (.tuple #[.bool true, .int .i64 0]) [.own 39 [.int .i64 0, .int .i64 0, .int .i64 100, .int .i64 0, .int .i64 100, .int .i64 100, .int .i64 0, .int .i64 100], .own 39 [.int .i64 10, .int .i64 10, .int .i64 90, .int .i64 90, .int .i64 50, .int .i64 50]] []), CallSpec Try.prog 23 [.agg #[(sB 0 4 4), .int .i64 (-5), .int .i64 50, (sB 1 3 3)], (a2 10 10), (a2 90 90), .int .i64 10] [.own 39 [.int .i64 0, .int .i64 0, .int .i64 100, .int .i64 0, .int .i64 100, .int .i64 100, .int .i64 0, .int .i64 100], .own 39 [.int .i64 10, .int .i64 10, .int .i64 90, .int .i64 90, .int .i64 50, .int .i64 50]] (.mk (.tuple #[.bool false, .int .i64 0]) [.own 39 [.int .i64 0, .int .i64 0, .int .i64 100, .int .i64 0, .int .i64 100, .int .i64 100, .int .i64 0, .int .i64 100], .own 39 [.int .i64 10, .int .i64 10, .int .i64 90, .int .i64 90, .int .i64 50, .int .i64 50]] []), CallSpec Try.prog 25 [.agg #[(sB 0 4 4), .int .i64 (-5), .int .i64 50, (sB 1 3 3)], (a2 70 70), .int .i64 15] [.own 39 [.int .i64 0, .int .i64 0, .int .i64 100, .int .i64 0, .int .i64 100, .int .i64 100, .int .i64 0, .int .i64 100], .own 39 [.int .i64 10, .int .i64 10, .int .i64 90, .int .i64 90, .int .i64 50, .int .i64 50]] (.mk (.tuple #[.int .i64 2, .int .i64 0]) [.own 39 [.int .i64 0, .int .i64 0, .int .i64 100, .int .i64 0, .int .i64 100, .int .i64 100, .int .i64 0, .int .i64 100], .own 39 [.int .i64 10, .int .i64 10, .int .i64 90, .int .i64 90, .int .i64 50, .int .i64 50]] []), CallSpec Try.prog 27 [.agg #[(sB 0 4 4), .int .i64 (-5), .int .i64 50, (sB 1 3 3)]] [.own 39 [.int .i64 0, .int .i64 0, .int .i64 100, .int .i64 0, .int .i64 100, .int .i64 100, .int .i64 0, .int .i64 100], .own 39 [.int .i64 10, .int .i64 10, .int .i64 90, .int .i64 90, .int .i64 50, .int .i64 50]] (.mk (.tuple #[.string (ByteArray.mk #[UInt8.ofNat 4, UInt8.ofNat 0, UInt8.ofNat 0, UInt8.ofNat 0, UInt8.ofNat 0, UInt8.ofNat 0, UInt8.ofNat 0, UInt8.ofNat 0, UInt8.ofNat 0, UInt8.ofNat 100, UInt8.ofNat 0, UInt8.ofNat 0, UInt8.ofNat 0, UInt8.ofNat 0, UInt8.ofNat 0, UInt8.ofNat 0, UInt8.ofNat 0, UInt8.ofNat 100, UInt8.ofNat 0, UInt8.ofNat 0, UInt8.ofNat 0, UInt8.ofNat 100, UInt8.ofNat 0, UInt8.ofNat 0, UInt8.ofNat 0, UInt8.ofNat 0, UInt8.ofNat 0, UInt8.ofNat 0, UInt8.ofNat 0, UInt8.ofNat 100, UInt8.ofNat 0, UInt8.ofNat 0, UInt8.ofNat 0, UInt8.ofNat 251, UInt8.ofNat 255, UInt8.ofNat 255, UInt8.ofNat 255, UInt8.ofNat 50, UInt8.ofNat 0, UInt8.ofNat 0, UInt8.ofNat 0, UInt8.ofNat 3, UInt8.ofNat 10, UInt8.ofNat 0, UInt8.ofNat 0, UInt8.ofNat 0, UInt8.ofNat 10, UInt8.ofNat 0, UInt8.ofNat 0, UInt8.ofNat 0, UInt8.ofNat 90, UInt8.ofNat 0, UInt8.ofNat 0, UInt8.ofNat 0, UInt8.ofNat 90, UInt8.ofNat 0, UInt8.ofNat 0, UInt8.ofNat 0, UInt8.ofNat 50, UInt8.ofNat 0, UInt8.ofNat 0, UInt8.ofNat 0, UInt8.ofNat 50, UInt8.ofNat 0, UInt8.ofNat 0, UInt8.ofNat 0]), .int .i64 0]) [.own 39 [.int .i64 0, .int .i64 0, .int .i64 100, .int .i64 0, .int .i64 100, .int .i64 100, .int .i64 0, .int .i64 100], .own 39 [.int .i64 10, .int .i64 10, .int .i64 90, .int .i64 90, .int .i64 50, .int .i64 50]] []), CallSpec Try.prog 29 [.string (ByteArray.mk #[UInt8.ofNat 4, UInt8.ofNat 0, UInt8.ofNat 0, UInt8.ofNat 0, UInt8.ofNat 0, UInt8.ofNat 0, UInt8.ofNat 0, UInt8.ofNat 0, UInt8.ofNat 0, UInt8.ofNat 100, UInt8.ofNat 0, UInt8.ofNat 0, UInt8.ofNat 0, UInt8.ofNat 0, UInt8.ofNat 0, UInt8.ofNat 0, UInt8.ofNat 0, UInt8.ofNat 100, UInt8.ofNat 0, UInt8.ofNat 0, UInt8.ofNat 0, UInt8.ofNat 100, UInt8.ofNat 0, UInt8.ofNat 0, UInt8.ofNat 0, UInt8.ofNat 0, UInt8.ofNat 0, UInt8.ofNat 0, UInt8.ofNat 0, UInt8.ofNat 100, UInt8.ofNat 0, UInt8.ofNat 0, UInt8.ofNat 0, UInt8.ofNat 251, UInt8.ofNat 255, UInt8.ofNat 255, UInt8.ofNat 255, UInt8.ofNat 50, UInt8.ofNat 0, UInt8.ofNat 0, UInt8.ofNat 0, UInt8.ofNat 3, UInt8.ofNat 10, UInt8.ofNat 0, UInt8.ofNat 0, UInt8.ofNat 0, UInt8.ofNat 10, UInt8.ofNat 0, UInt8.ofNat 0, UInt8.ofNat 0, UInt8.ofNat 90, UInt8.ofNat 0, UInt8.ofNat 0, UInt8.ofNat 0, UInt8.ofNat 90, UInt8.ofNat 0, UInt8.ofNat 0, UInt8.ofNat 0, UInt8.ofNat 50, UInt8.ofNat 0, UInt8.ofNat 0, UInt8.ofNat 0, UInt8.ofNat 50, UInt8.ofNat 0, UInt8.ofNat 0, UInt8.ofNat 0])] [] (.mk (.tuple #[.agg #[(sB 0 4 4), .int .i64 (-5), .int .i64 50, (sB 1 3 3)], .int .i64 0]) [.own 39 [.int .i64 0, .int .i64 0, .int .i64 100, .int .i64 0, .int .i64 100, .int .i64 100, .int .i64 0, .int .i64 100], .own 39 [.int .i64 10, .int .i64 10, .int .i64 90, .int .i64 90, .int .i64 50, .int .i64 50]] []), CallSpec Try.prog 18 [.agg #[sN, .int .i64 0, .int .i64 0, sN]] [] (.mk (.int .i64 90) [] [])]) := by kernel_rfl
theorem awake_w  (R : Res) (k_p : Res.le (.mk (.bool true) [] []) R) : CallSpec (Try.prog) (17) ([]) ([]) R := by
  exact (CallSpec.id (go_ok (exec_ok tnamed tcalm tmixed _ _ _ _) (awake_w_p ) (aC (aw_h1) (aC (aw_h2) (aC (aw_l1) (aC (aw_l2) (aC (aw_r) (aC (aw_e) (aC (aw_d) (aC (aw_few) aN)))))))))).le (k_p )
end Go.Proofs.Ytjalkjeldlchoaa.Ex
end
section
set_option linter.unusedSectionVars false
set_option linter.unusedSimpArgs false
set_option linter.unusedVariables false
namespace Go.Proofs.Ytjalkjeldlchoaa.Ex
open Go
set_option linter.unusedVariables false
section
variable (ps qs : List Value) (fl ce : Int) (kP : CallSpec Try.prog 67 [lentV 0 0, slN] [.own 39 ps] (.mk (.bool true) [.own 39 ps] [])) (kR : CallSpec Try.prog 67 [lentV 0 0, slN] [.own 39 qs] (.mk (.bool true) [.own 39 qs] []))
include ps qs fl ce kP kR
theorem same_nn_p : go (exec (Try.prog) (8) (31) ([fV (lentV 0 0) fl ce (lentV 1 0), fV slN fl ce slN]) ([.own 39 ps, .own 39 qs])) [(15, .call (.mk (.bool true) [.own 39 ps] [])), (20, .dec true), (1, .dec true), (3, .dec true), (1, .dec true), (3, .dec true), (1, .dec true), (2, .dec true), (1, .dec true), (2, .dec true), (1, .dec true), (2, .dec true), (0, .call (.mk (.bool true) [.own 39 qs] [])), (2, .dec true)] = some (.mk (.bool true) [.own 39 ps, .own 39 qs] [], true, [type_of% kP, decide (fl = fl) = true, decide (fl = fl) = true, decide (fl = fl) = true, decide (fl = fl) = true, decide (fl = fl) = true, decide (fl = fl) = true, decide (ce = ce) = true, decide (ce = ce) = true, decide (ce = ce) = true, decide (ce = ce) = true, decide (ce = ce) = true, type_of% kR, decide (ce = ce) = true]) := by kernel_rfl
theorem same_nn (R : Res) (k_p : Res.le (.mk (.bool true) [.own 39 ps, .own 39 qs] []) R) : CallSpec (Try.prog) (31) ([fV (lentV 0 0) fl ce (lentV 1 0), fV slN fl ce slN]) ([.own 39 ps, .own 39 qs]) R := by
  exact (CallSpec.id (go_ok (exec_ok tnamed tcalm tmixed _ _ _ _) (same_nn_p ps qs fl ce kP kR ) (aC (kP) (aC dO (aC dO (aC dO (aC dO (aC dO (aC dO (aC dO (aC dO (aC dO (aC dO (aC dO (aC (kR) (aC dO aN)))))))))))))))).le (k_p )
end
section
variable (ps qs : List Value) (fl ce : Int) (hn : 0 ≤ 1099511627776000 ∧ 0 ≤ 1099511627776000) (hp : List.length ps = 0 * 2 + 2) (hq : List.length qs = 0 * 2 + 2) (eP : Value.agg (List.toArray (List.take 2 (List.drop 0 ps))) = (a2 (-77) (-77))) (eR : Value.agg (List.toArray (List.take 2 (List.drop 0 qs))) = (a2 (-77) (-77))) (kS : CallSpec Try.prog 31 [fV (lentV 0 0) fl ce (lentV 1 0), fV slN fl ce slN] [.own 39 ps, .own 39 qs] (.mk (.bool true) [.own 39 ps, .own 39 qs] []))
include ps qs fl ce hn hp hq eP eR kS
theorem kept_nn_p : go (exec (Try.prog) (8) (20) ([fV (lentV 0 0) fl ce (lentV 1 0), fV slN fl ce slN]) ([.own 39 ps, .own 39 qs])) [(39, .call (.mk (.bool true) [.own 39 ps, .own 39 qs] [])), (16, Itm.must), (0, Itm.val ((a2 (-77) (-77)))), (43, Itm.must), (0, Itm.val ((a2 (-77) (-77))))] = some (.mk (.bool true) [.own 39 ps, .own 39 qs] [], true, [type_of% kS, decide (2 ≤ List.length ps) = true, type_of% eP, decide (2 ≤ List.length qs) = true, type_of% eR]) := by kernel_rfl
theorem kept_nn (R : Res) (k_p : Res.le (.mk (.bool true) [.own 39 ps, .own 39 qs] []) R) : CallSpec (Try.prog) (20) ([fV (lentV 0 0) fl ce (lentV 1 0), fV slN fl ce slN]) ([.own 39 ps, .own 39 qs]) R := by
  exact (CallSpec.id (go_ok (exec_ok tnamed tcalm tmixed _ _ _ _) (kept_nn_p ps qs fl ce hn hp hq eP eR kS ) (aC (kS) (aC dO (aC (eP) (aC dO (aC (eR) aN))))))).le (k_p )
end
section
variable (ps qs : List Value) (fl ce : Int) (kP : CallSpec Try.prog 67 [lentV 0 0, slN] [.own 39 ps] (.mk (.bool true) [.own 39 ps] [])) (kR : CallSpec Try.prog 67 [lentV 0 0, slD 1] [.own 39 qs, .dead] (.mk (.bool true) [.own 39 qs, .dead] []))
include ps qs fl ce kP kR
theorem same_nd_p : go (exec (Try.prog) (8) (31) ([fV (lentV 0 0) fl ce (lentV 1 0), fV slN fl ce (slD 2)]) ([.own 39 ps, .own 39 qs, .dead])) [(15, .call (.mk (.bool true) [.own 39 ps] [])), (20, .dec true), (1, .dec true), (3, .dec true), (1, .dec true), (3, .dec true), (1, .dec true), (2, .dec true), (1, .dec true), (2, .dec true), (1, .dec true), (2, .dec true), (0, .call (.mk (.bool true) [.own 39 qs, .dead] [])), (2, .dec true)] = some (.mk (.bool true) [.own 39 ps, .own 39 qs, .dead] [], true, [type_of% kP, decide (fl = fl) = true, decide (fl = fl) = true, decide (fl = fl) = true, decide (fl = fl) = true, decide (fl = fl) = true, decide (fl = fl) = true, decide (ce = ce) = true, decide (ce = ce) = true, decide (ce = ce) = true, decide (ce = ce) = true, decide (ce = ce) = true, type_of% kR, decide (ce = ce) = true]) := by kernel_rfl
theorem same_nd (R : Res) (k_p : Res.le (.mk (.bool true) [.own 39 ps, .own 39 qs, .dead] []) R) : CallSpec (Try.prog) (31) ([fV (lentV 0 0) fl ce (lentV 1 0), fV slN fl ce (slD 2)]) ([.own 39 ps, .own 39 qs, .dead]) R := by
  exact (CallSpec.id (go_ok (exec_ok tnamed tcalm tmixed _ _ _ _) (same_nd_p ps qs fl ce kP kR ) (aC (kP) (aC dO (aC dO (aC dO (aC dO (aC dO (aC dO (aC dO (aC dO (aC dO (aC dO (aC dO (aC (kR) (aC dO aN)))))))))))))))).le (k_p )
end
section
variable (ps qs : List Value) (fl ce : Int) (hn : 0 ≤ 1099511627776000 ∧ 0 ≤ 1099511627776000) (hp : List.length ps = 0 * 2 + 2) (hq : List.length qs = 0 * 2 + 2) (eP : Value.agg (List.toArray (List.take 2 (List.drop 0 ps))) = (a2 (-77) (-77))) (eR : Value.agg (List.toArray (List.take 2 (List.drop 0 qs))) = (a2 (-77) (-77))) (kS : CallSpec Try.prog 31 [fV (lentV 0 0) fl ce (lentV 1 0), fV slN fl ce (slD 2)] [.own 39 ps, .own 39 qs, .dead] (.mk (.bool true) [.own 39 ps, .own 39 qs, .dead] []))
include ps qs fl ce hn hp hq eP eR kS
theorem kept_nd_p : go (exec (Try.prog) (8) (20) ([fV (lentV 0 0) fl ce (lentV 1 0), fV slN fl ce (slD 2)]) ([.own 39 ps, .own 39 qs, .dead])) [(39, .call (.mk (.bool true) [.own 39 ps, .own 39 qs, .dead] [])), (16, Itm.must), (0, Itm.val ((a2 (-77) (-77)))), (43, Itm.must), (0, Itm.val ((a2 (-77) (-77))))] = some (.mk (.bool true) [.own 39 ps, .own 39 qs, .dead] [], true, [type_of% kS, decide (2 ≤ List.length ps) = true, type_of% eP, decide (2 ≤ List.length qs) = true, type_of% eR]) := by kernel_rfl
theorem kept_nd (R : Res) (k_p : Res.le (.mk (.bool true) [.own 39 ps, .own 39 qs, .dead] []) R) : CallSpec (Try.prog) (20) ([fV (lentV 0 0) fl ce (lentV 1 0), fV slN fl ce (slD 2)]) ([.own 39 ps, .own 39 qs, .dead]) R := by
  exact (CallSpec.id (go_ok (exec_ok tnamed tcalm tmixed _ _ _ _) (kept_nd_p ps qs fl ce hn hp hq eP eR kS ) (aC (kS) (aC dO (aC (eP) (aC dO (aC (eR) aN))))))).le (k_p )
end
section
variable (m : Nat) (rs ps qs : List Value) (fl ce : Int) (kP : CallSpec Try.prog 67 [lentV 0 0, slN] [.own 39 ps] (.mk (.bool true) [.own 39 ps] [])) (kR : CallSpec Try.prog 67 [lentV 0 m, slB 1 m m] [.own 39 qs, .ro 39 rs] (.mk (.bool true) [.own 39 qs, .ro 39 rs] []))
include m rs ps qs fl ce kP kR
theorem same_nb_p : go (exec (Try.prog) (8) (31) ([fV (lentV 0 0) fl ce (lentV 1 m), fV slN fl ce (slB 2 m m)]) ([.own 39 ps, .own 39 qs, .ro 39 rs])) [(15, .call (.mk (.bool true) [.own 39 ps] [])), (20, .dec true), (1, .dec true), (3, .dec true), (1, .dec true), (3, .dec true), (1, .dec true), (2, .dec true), (1, .dec true), (2, .dec true), (1, .dec true), (2, .dec true), (0, .call (.mk (.bool true) [.own 39 qs, .ro 39 rs] [])), (2, .dec true)] = some (.mk (.bool true) [.own 39 ps, .own 39 qs, .ro 39 rs] [], true, [type_of% kP, decide (fl = fl) = true, decide (fl = fl) = true, decide (fl = fl) = true, decide (fl = fl) = true, decide (fl = fl) = true, decide (fl = fl) = true, decide (ce = ce) = true, decide (ce = ce) = true, decide (ce = ce) = true, decide (ce = ce) = true, decide (ce = ce) = true, type_of% kR, decide (ce = ce) = true]) := by kernel_rfl
theorem same_nb (R : Res) (k_p : Res.le (.mk (.bool true) [.own 39 ps, .own 39 qs, .ro 39 rs] []) R) : CallSpec (Try.prog) (31) ([fV (lentV 0 0) fl ce (lentV 1 m), fV slN fl ce (slB 2 m m)]) ([.own 39 ps, .own 39 qs, .ro 39 rs]) R := by
  exact (CallSpec.id (go_ok (exec_ok tnamed tcalm tmixed _ _ _ _) (same_nb_p m rs ps qs fl ce kP kR ) (aC (kP) (aC dO (aC dO (aC dO (aC dO (aC dO (aC dO (aC dO (aC dO (aC dO (aC dO (aC dO (aC (kR) (aC dO aN)))))))))))))))).le (k_p )
end
section
variable (m : Nat) (rs ps qs : List Value) (fl ce : Int) (hn : 0 ≤ 1099511627776000 ∧ m ≤ 1099511627776000) (hp : List.length ps = 0 * 2 + 2) (hq : List.length qs = m * 2 + 2) (eP : Value.agg (List.toArray (List.take 2 (List.drop 0 ps))) = (a2 (-77) (-77))) (eR : ptAt qs (↑m : Int) (-77) (-77)) (kS : CallSpec Try.prog 31 [fV (lentV 0 0) fl ce (lentV 1 m), fV slN fl ce (slB 2 m m)] [.own 39 ps, .own 39 qs, .ro 39 rs] (.mk (.bool true) [.own 39 ps, .own 39 qs, .ro 39 rs] []))
include m rs ps qs fl ce hn hp hq eP eR kS
theorem kept_nb_p : go (exec (Try.prog) (8) (20) ([fV (lentV 0 0) fl ce (lentV 1 m), fV slN fl ce (slB 2 m m)]) ([.own 39 ps, .own 39 qs, .ro 39 rs])) [(29, Itm.val (.int .i64 ((↑m : Int) + 1))), (0, Itm.must), (8, .call (.mk (.bool true) [.own 39 ps, .own 39 qs, .ro 39 rs] [])), (16, Itm.must), (0, Itm.val ((a2 (-77) (-77)))), (40, Itm.must), (2, Itm.must), (0, Itm.val ((a2 (-77) (-77))))] = some (.mk (.bool true) [.own 39 ps, .own 39 qs, .ro 39 rs] [], true, [Value.int .i64 (IntKind.wrap .i64 ((↑m : Int) + 1)) = .int .i64 ((↑m : Int) + 1), upto ((↑m : Int) + 1) (m + 1) = true, type_of% kS, decide (2 ≤ List.length ps) = true, type_of% eP, inside (↑m : Int) (Int.toNat ((↑m : Int) + 1) - 0) = true, decide (0 + Int.toNat (↑m : Int) * 2 + 2 ≤ List.length qs) = true, type_of% eR]) := by kernel_rfl
theorem kept_nb (R : Res) (k_p : Res.le (.mk (.bool true) [.own 39 ps, .own 39 qs, .ro 39 rs] []) R) : CallSpec (Try.prog) (20) ([fV (lentV 0 0) fl ce (lentV 1 m), fV slN fl ce (slB 2 m m)]) ([.own 39 ps, .own 39 qs, .ro 39 rs]) R := by
  exact (CallSpec.id (go_ok (exec_ok tnamed tcalm tmixed _ _ _ _) (kept_nb_p m rs ps qs fl ce hn hp hq eP eR kS ) (aC (congrArg (Value.int _) (Go.IntWalk.i64_in _ (by omega))) (aC (upto_of (by omega)) (aC (kS) (aC dO (aC (eP) (aC (inside_of (by omega)) (aC dO (aC (eR) aN)))))))))).le (k_p )
end
section
variable (ps qs : List Value) (fl ce : Int) (kP : CallSpec Try.prog 67 [lentV 0 0, slD 1] [.own 39 ps, .dead] (.mk (.bool true) [.own 39 ps, .dead] [])) (kR : CallSpec Try.prog 67 [lentV 0 0, slN] [.own 39 qs] (.mk (.bool true) [.own 39 qs] []))
include ps qs fl ce kP kR
theorem same_dn_p : go (exec (Try.prog) (8) (31) ([fV (lentV 0 0) fl ce (lentV 1 0), fV (slD 2) fl ce slN]) ([.own 39 ps, .own 39 qs, .dead])) [(15, .call (.mk (.bool true) [.own 39 ps, .dead] [])), (20, .dec true), (1, .dec true), (3, .dec true), (1, .dec true), (3, .dec true), (1, .dec true), (2, .dec true), (1, .dec true), (2, .dec true), (1, .dec true), (2, .dec true), (0, .call (.mk (.bool true) [.own 39 qs] [])), (2, .dec true)] = some (.mk (.bool true) [.own 39 ps, .own 39 qs, .dead] [], true, [type_of% kP, decide (fl = fl) = true, decide (fl = fl) = true, decide (fl = fl) = true, decide (fl = fl) = true, decide (fl = fl) = true, decide (fl = fl) = true, decide (ce = ce) = true, decide (ce = ce) = true, decide (ce = ce) = true, decide (ce = ce) = true, decide (ce = ce) = true, type_of% kR, decide (ce = ce) = true]) := by kernel_rfl
theorem same_dn (R : Res) (k_p : Res.le (.mk (.bool true) [.own 39 ps, .own 39 qs, .dead] []) R) : CallSpec (Try.prog) (31) ([fV (lentV 0 0) fl ce (lentV 1 0), fV (slD 2) fl ce slN]) ([.own 39 ps, .own 39 qs, .dead]) R := by
  exact (CallSpec.id (go_ok (exec_ok tnamed tcalm tmixed _ _ _ _) (same_dn_p ps qs fl ce kP kR ) (aC (kP) (aC dO (aC dO (aC dO (aC dO (aC dO (aC dO (aC dO (aC dO (aC dO (aC dO (aC dO (aC (kR) (aC dO aN)))))))))))))))).le (k_p )
end
section
variable (ps qs : List Value) (fl ce : Int) (hn : 0 ≤ 1099511627776000 ∧ 0 ≤ 1099511627776000) (hp : List.length ps = 0 * 2 + 2) (hq : List.length qs = 0 * 2 + 2) (eP : Value.agg (List.toArray (List.take 2 (List.drop 0 ps))) = (a2 (-77) (-77))) (eR : Value.agg (List.toArray (List.take 2 (List.drop 0 qs))) = (a2 (-77) (-77))) (kS : CallSpec Try.prog 31 [fV (lentV 0 0) fl ce (lentV 1 0), fV (slD 2) fl ce slN] [.own 39 ps, .own 39 qs, .dead] (.mk (.bool true) [.own 39 ps, .own 39 qs, .dead] []))
include ps qs fl ce hn hp hq eP eR kS
theorem kept_dn_p : go (exec (Try.prog) (8) (20) ([fV (lentV 0 0) fl ce (lentV 1 0), fV (slD 2) fl ce slN]) ([.own 39 ps, .own 39 qs, .dead])) [(39, .call (.mk (.bool true) [.own 39 ps, .own 39 qs, .dead] [])), (16, Itm.must), (0, Itm.val ((a2 (-77) (-77)))), (43, Itm.must), (0, Itm.val ((a2 (-77) (-77))))] = some (.mk (.bool true) [.own 39 ps, .own 39 qs, .dead] [], true, [type_of% kS, decide (2 ≤ List.length ps) = true, type_of% eP, decide (2 ≤ List.length qs) = true, type_of% eR]) := by kernel_rfl
theorem kept_dn (R : Res) (k_p : Res.le (.mk (.bool true) [.own 39 ps, .own 39 qs, .dead] []) R) : CallSpec (Try.prog) (20) ([fV (lentV 0 0) fl ce (lentV 1 0), fV (slD 2) fl ce slN]) ([.own 39 ps, .own 39 qs, .dead]) R := by
  exact (CallSpec.id (go_ok (exec_ok tnamed tcalm tmixed _ _ _ _) (kept_dn_p ps qs fl ce hn hp hq eP eR kS ) (aC (kS) (aC dO (aC (eP) (aC dO (aC (eR) aN))))))).le (k_p )
end
section
variable (ps qs : List Value) (fl ce : Int) (kP : CallSpec Try.prog 67 [lentV 0 0, slD 1] [.own 39 ps, .dead] (.mk (.bool true) [.own 39 ps, .dead] [])) (kR : CallSpec Try.prog 67 [lentV 0 0, slD 1] [.own 39 qs, .dead] (.mk (.bool true) [.own 39 qs, .dead] []))
include ps qs fl ce kP kR
theorem same_dd_p : go (exec (Try.prog) (8) (31) ([fV (lentV 0 0) fl ce (lentV 1 0), fV (slD 2) fl ce (slD 3)]) ([.own 39 ps, .own 39 qs, .dead, .dead])) [(15, .call (.mk (.bool true) [.own 39 ps, .dead] [])), (20, .dec true), (1, .dec true), (3, .dec true), (1, .dec true), (3, .dec true), (1, .dec true), (2, .dec true), (1, .dec true), (2, .dec true), (1, .dec true), (2, .dec true), (0, .call (.mk (.bool true) [.own 39 qs, .dead] [])), (2, .dec true)] = some (.mk (.bool true) [.own 39 ps, .own 39 qs, .dead, .dead] [], true, [type_of% kP, decide (fl = fl) = true, decide (fl = fl) = true, decide (fl = fl) = true, decide (fl = fl) = true, decide (fl = fl) = true, decide (fl = fl) = true, decide (ce = ce) = true, decide (ce = ce) = true, decide (ce = ce) = true, decide (ce = ce) = true, decide (ce = ce) = true, type_of% kR, decide (ce = ce) = true]) := by kernel_rfl
theorem same_dd (R : Res) (k_p : Res.le (.mk (.bool true) [.own 39 ps, .own 39 qs, .dead, .dead] []) R) : CallSpec (Try.prog) (31) ([fV (lentV 0 0) fl ce (lentV 1 0), fV (slD 2) fl ce (slD 3)]) ([.own 39 ps, .own 39 qs, .dead, .dead]) R := by
  exact (CallSpec.id (go_ok (exec_ok tnamed tcalm tmixed _ _ _ _) (same_dd_p ps qs fl ce kP kR ) (aC (kP) (aC dO (aC dO (aC dO (aC dO (aC dO (aC dO (aC dO (aC dO (aC dO (aC dO (aC dO (aC (kR) (aC dO aN)))))))))))))))).le (k_p )
end
section
variable (ps qs : List Value) (fl ce : Int) (hn : 0 ≤ 1099511627776000 ∧ 0 ≤ 1099511627776000) (hp : List.length ps = 0 * 2 + 2) (hq : List.length qs = 0 * 2 + 2) (eP : Value.agg (List.toArray (List.take 2 (List.drop 0 ps))) = (a2 (-77) (-77))) (eR : Value.agg (List.toArray (List.take 2 (List.drop 0 qs))) = (a2 (-77) (-77))) (kS : CallSpec Try.prog 31 [fV (lentV 0 0) fl ce (lentV 1 0), fV (slD 2) fl ce (slD 3)] [.own 39 ps, .own 39 qs, .dead, .dead] (.mk (.bool true) [.own 39 ps, .own 39 qs, .dead, .dead] []))
include ps qs fl ce hn hp hq eP eR kS
theorem kept_dd_p : go (exec (Try.prog) (8) (20) ([fV (lentV 0 0) fl ce (lentV 1 0), fV (slD 2) fl ce (slD 3)]) ([.own 39 ps, .own 39 qs, .dead, .dead])) [(39, .call (.mk (.bool true) [.own 39 ps, .own 39 qs, .dead, .dead] [])), (16, Itm.must), (0, Itm.val ((a2 (-77) (-77)))), (43, Itm.must), (0, Itm.val ((a2 (-77) (-77))))] = some (.mk (.bool true) [.own 39 ps, .own 39 qs, .dead, .dead] [], true, [type_of% kS, decide (2 ≤ List.length ps) = true, type_of% eP, decide (2 ≤ List.length qs) = true, type_of% eR]) := by kernel_rfl
theorem kept_dd (R : Res) (k_p : Res.le (.mk (.bool true) [.own 39 ps, .own 39 qs, .dead, .dead] []) R) : CallSpec (Try.prog) (20) ([fV (lentV 0 0) fl ce (lentV 1 0), fV (slD 2) fl ce (slD 3)]) ([.own 39 ps, .own 39 qs, .dead, .dead]) R := by
  exact (CallSpec.id (go_ok (exec_ok tnamed tcalm tmixed _ _ _ _) (kept_dd_p ps qs fl ce hn hp hq eP eR kS ) (aC (kS) (aC dO (aC (eP) (aC dO (aC (eR) aN))))))).le (k_p )
end
section
variable (m : Nat) (rs ps qs : List Value) (fl ce : Int) (kP : CallSpec Try.prog 67 [lentV 0 0, slD 1] [.own 39 ps, .dead] (.mk (.bool true) [.own 39 ps, .dead] [])) (kR : CallSpec Try.prog 67 [lentV 0 m, slB 1 m m] [.own 39 qs, .ro 39 rs] (.mk (.bool true) [.own 39 qs, .ro 39 rs] []))
include m rs ps qs fl ce kP kR
theorem same_db_p : go (exec (Try.prog) (8) (31) ([fV (lentV 0 0) fl ce (lentV 1 m), fV (slD 2) fl ce (slB 3 m m)]) ([.own 39 ps, .own 39 qs, .dead, .ro 39 rs])) [(15, .call (.mk (.bool true) [.own 39 ps, .dead] [])), (20, .dec true), (1, .dec true), (3, .dec true), (1, .dec true), (3, .dec true), (1, .dec true), (2, .dec true), (1, .dec true), (2, .dec true), (1, .dec true), (2, .dec true), (0, .call (.mk (.bool true) [.own 39 qs, .ro 39 rs] [])), (2, .dec true)] = some (.mk (.bool true) [.own 39 ps, .own 39 qs, .dead, .ro 39 rs] [], true, [type_of% kP, decide (fl = fl) = true, decide (fl = fl) = true, decide (fl = fl) = true, decide (fl = fl) = true, decide (fl = fl) = true, decide (fl = fl) = true, decide (ce = ce) = true, decide (ce = ce) = true, decide (ce = ce) = true, decide (ce = ce) = true, decide (ce = ce) = true, type_of% kR, decide (ce = ce) = true]) := by kernel_rfl
theorem same_db (R : Res) (k_p : Res.le (.mk (.bool true) [.own 39 ps, .own 39 qs, .dead, .ro 39 rs] []) R) : CallSpec (Try.prog) (31) ([fV (lentV 0 0) fl ce (lentV 1 m), fV (slD 2) fl ce (slB 3 m m)]) ([.own 39 ps, .own 39 qs, .dead, .ro 39 rs]) R := by
  exact (CallSpec.id (go_ok (exec_ok tnamed tcalm tmixed _ _ _ _) (same_db_p m rs ps qs fl ce kP kR ) (aC (kP) (aC dO (aC dO (aC dO (aC dO (aC dO (aC dO (aC dO (aC dO (aC dO (aC dO (aC dO (aC (kR) (aC dO aN)))))))))))))))).le (k_p )
end
section
variable (m : Nat) (rs ps qs : List Value) (fl ce : Int) (hn : 0 ≤ 1099511627776000 ∧ m ≤ 1099511627776000) (hp : List.length ps = 0 * 2 + 2) (hq : List.length qs = m * 2 + 2) (eP : Value.agg (List.toArray (List.take 2 (List.drop 0 ps))) = (a2 (-77) (-77))) (eR : ptAt qs (↑m : Int) (-77) (-77)) (kS : CallSpec Try.prog 31 [fV (lentV 0 0) fl ce (lentV 1 m), fV (slD 2) fl ce (slB 3 m m)] [.own 39 ps, .own 39 qs, .dead, .ro 39 rs] (.mk (.bool true) [.own 39 ps, .own 39 qs, .dead, .ro 39 rs] []))
include m rs ps qs fl ce hn hp hq eP eR kS
theorem kept_db_p : go (exec (Try.prog) (8) (20) ([fV (lentV 0 0) fl ce (lentV 1 m), fV (slD 2) fl ce (slB 3 m m)]) ([.own 39 ps, .own 39 qs, .dead, .ro 39 rs])) [(29, Itm.val (.int .i64 ((↑m : Int) + 1))), (0, Itm.must), (8, .call (.mk (.bool true) [.own 39 ps, .own 39 qs, .dead, .ro 39 rs] [])), (16, Itm.must), (0, Itm.val ((a2 (-77) (-77)))), (40, Itm.must), (2, Itm.must), (0, Itm.val ((a2 (-77) (-77))))] = some (.mk (.bool true) [.own 39 ps, .own 39 qs, .dead, .ro 39 rs] [], true, [Value.int .i64 (IntKind.wrap .i64 ((↑m : Int) + 1)) = .int .i64 ((↑m : Int) + 1), upto ((↑m : Int) + 1) (m + 1) = true, type_of% kS, decide (2 ≤ List.length ps) = true, type_of% eP, inside (↑m : Int) (Int.toNat ((↑m : Int) + 1) - 0) = true, decide (0 + Int.toNat (↑m : Int) * 2 + 2 ≤ List.length qs) = true, type_of% eR]) := by kernel_rfl
theorem kept_db (R : Res) (k_p : Res.le (.mk (.bool true) [.own 39 ps, .own 39 qs, .dead, .ro 39 rs] []) R) : CallSpec (Try.prog) (20) ([fV (lentV 0 0) fl ce (lentV 1 m), fV (slD 2) fl ce (slB 3 m m)]) ([.own 39 ps, .own 39 qs, .dead, .ro 39 rs]) R := by
  exact (CallSpec.id (go_ok (exec_ok tnamed tcalm tmixed _ _ _ _) (kept_db_p m rs ps qs fl ce hn hp hq eP eR kS ) (aC (congrArg (Value.int _) (Go.IntWalk.i64_in _ (by omega))) (aC (upto_of (by omega)) (aC (kS) (aC dO (aC (eP) (aC (inside_of (by omega)) (aC dO (aC (eR) aN)))))))))).le (k_p )
end
section
variable (n : Nat) (cs ps qs : List Value) (fl ce : Int) (kP : CallSpec Try.prog 67 [lentV 0 n, slB 1 n n] [.own 39 ps, .ro 39 cs] (.mk (.bool true) [.own 39 ps, .ro 39 cs] [])) (kR : CallSpec Try.prog 67 [lentV 0 0, slN] [.own 39 qs] (.mk (.bool true) [.own 39 qs] []))
include n cs ps qs fl ce kP kR
theorem same_bn_p : go (exec (Try.prog) (8) (31) ([fV (lentV 0 n) fl ce (lentV 1 0), fV (slB 2 n n) fl ce slN]) ([.own 39 ps, .own 39 qs, .ro 39 cs])) [(15, .call (.mk (.bool true) [.own 39 ps, .ro 39 cs] [])), (20, .dec true), (1, .dec true), (3, .dec true), (1, .dec true), (3, .dec true), (1, .dec true), (2, .dec true), (1, .dec true), (2, .dec true), (1, .dec true), (2, .dec true), (0, .call (.mk (.bool true) [.own 39 qs] [])), (2, .dec true)] = some (.mk (.bool true) [.own 39 ps, .own 39 qs, .ro 39 cs] [], true, [type_of% kP, decide (fl = fl) = true, decide (fl = fl) = true, decide (fl = fl) = true, decide (fl = fl) = true, decide (fl = fl) = true, decide (fl = fl) = true, decide (ce = ce) = true, decide (ce = ce) = true, decide (ce = ce) = true, decide (ce = ce) = true, decide (ce = ce) = true, type_of% kR, decide (ce = ce) = true]) := by kernel_rfl
theorem same_bn (R : Res) (k_p : Res.le (.mk (.bool true) [.own 39 ps, .own 39 qs, .ro 39 cs] []) R) : CallSpec (Try.prog) (31) ([fV (lentV 0 n) fl ce (lentV 1 0), fV (slB 2 n n) fl ce slN]) ([.own 39 ps, .own 39 qs, .ro 39 cs]) R := by
  exact (CallSpec.id (go_ok (exec_ok tnamed tcalm tmixed _ _ _ _) (same_bn_p n cs ps qs fl ce kP kR ) (aC (kP) (aC dO (aC dO (aC dO (aC dO (aC dO (aC dO (aC dO (aC dO (aC dO (aC dO (aC dO (aC (kR) (aC dO aN)))))))))))))))).le (k_p )
end
section
variable (n : Nat) (cs ps qs : List Value) (fl ce : Int) (hn : n ≤ 1099511627776000 ∧ 0 ≤ 1099511627776000) (hp : List.length ps = n * 2 + 2) (hq : List.length qs = 0 * 2 + 2) (eP : ptAt ps (↑n : Int) (-77) (-77)) (eR : Value.agg (List.toArray (List.take 2 (List.drop 0 qs))) = (a2 (-77) (-77))) (kS : CallSpec Try.prog 31 [fV (lentV 0 n) fl ce (lentV 1 0), fV (slB 2 n n) fl ce slN] [.own 39 ps, .own 39 qs, .ro 39 cs] (.mk (.bool true) [.own 39 ps, .own 39 qs, .ro 39 cs] []))
include n cs ps qs fl ce hn hp hq eP eR kS
theorem kept_bn_p : go (exec (Try.prog) (8) (20) ([fV (lentV 0 n) fl ce (lentV 1 0), fV (slB 2 n n) fl ce slN]) ([.own 39 ps, .own 39 qs, .ro 39 cs])) [(16, Itm.val (.int .i64 ((↑n : Int) + 1))), (0, Itm.must), (21, .call (.mk (.bool true) [.own 39 ps, .own 39 qs, .ro 39 cs] [])), (13, Itm.must), (2, Itm.must), (0, Itm.val ((a2 (-77) (-77)))), (43, Itm.must), (0, Itm.val ((a2 (-77) (-77))))] = some (.mk (.bool true) [.own 39 ps, .own 39 qs, .ro 39 cs] [], true, [Value.int .i64 (IntKind.wrap .i64 ((↑n : Int) + 1)) = .int .i64 ((↑n : Int) + 1), upto ((↑n : Int) + 1) (n + 1) = true, type_of% kS, inside (↑n : Int) (Int.toNat ((↑n : Int) + 1) - 0) = true, decide (0 + Int.toNat (↑n : Int) * 2 + 2 ≤ List.length ps) = true, type_of% eP, decide (2 ≤ List.length qs) = true, type_of% eR]) := by kernel_rfl
theorem kept_bn (R : Res) (k_p : Res.le (.mk (.bool true) [.own 39 ps, .own 39 qs, .ro 39 cs] []) R) : CallSpec (Try.prog) (20) ([fV (lentV 0 n) fl ce (lentV 1 0), fV (slB 2 n n) fl ce slN]) ([.own 39 ps, .own 39 qs, .ro 39 cs]) R := by
  exact (CallSpec.id (go_ok (exec_ok tnamed tcalm tmixed _ _ _ _) (kept_bn_p n cs ps qs fl ce hn hp hq eP eR kS ) (aC (congrArg (Value.int _) (Go.IntWalk.i64_in _ (by omega))) (aC (upto_of (by omega)) (aC (kS) (aC (inside_of (by omega)) (aC dO (aC (eP) (aC dO (aC (eR) aN)))))))))).le (k_p )
end
section
variable (n : Nat) (cs ps qs : List Value) (fl ce : Int) (kP : CallSpec Try.prog 67 [lentV 0 n, slB 1 n n] [.own 39 ps, .ro 39 cs] (.mk (.bool true) [.own 39 ps, .ro 39 cs] [])) (kR : CallSpec Try.prog 67 [lentV 0 0, slD 1] [.own 39 qs, .dead] (.mk (.bool true) [.own 39 qs, .dead] []))
include n cs ps qs fl ce kP kR
theorem same_bd_p : go (exec (Try.prog) (8) (31) ([fV (lentV 0 n) fl ce (lentV 1 0), fV (slB 2 n n) fl ce (slD 3)]) ([.own 39 ps, .own 39 qs, .ro 39 cs, .dead])) [(15, .call (.mk (.bool true) [.own 39 ps, .ro 39 cs] [])), (20, .dec true), (1, .dec true), (3, .dec true), (1, .dec true), (3, .dec true), (1, .dec true), (2, .dec true), (1, .dec true), (2, .dec true), (1, .dec true), (2, .dec true), (0, .call (.mk (.bool true) [.own 39 qs, .dead] [])), (2, .dec true)] = some (.mk (.bool true) [.own 39 ps, .own 39 qs, .ro 39 cs, .dead] [], true, [type_of% kP, decide (fl = fl) = true, decide (fl = fl) = true, decide (fl = fl) = true, decide (fl = fl) = true, decide (fl = fl) = true, decide (fl = fl) = true, decide (ce = ce) = true, decide (ce = ce) = true, decide (ce = ce) = true, decide (ce = ce) = true, decide (ce = ce) = true, type_of% kR, decide (ce = ce) = true]) := by kernel_rfl
theorem same_bd (R : Res) (k_p : Res.le (.mk (.bool true) [.own 39 ps, .own 39 qs, .ro 39 cs, .dead] []) R) : CallSpec (Try.prog) (31) ([fV (lentV 0 n) fl ce (lentV 1 0), fV (slB 2 n n) fl ce (slD 3)]) ([.own 39 ps, .own 39 qs, .ro 39 cs, .dead]) R := by
  exact (CallSpec.id (go_ok (exec_ok tnamed tcalm tmixed _ _ _ _) (same_bd_p n cs ps qs fl ce kP kR ) (aC (kP) (aC dO (aC dO (aC dO (aC dO (aC dO (aC dO (aC dO (aC dO (aC dO (aC dO (aC dO (aC (kR) (aC dO aN)))))))))))))))).le (k_p )
end
section
variable (n : Nat) (cs ps qs : List Value) (fl ce : Int) (hn : n ≤ 1099511627776000 ∧ 0 ≤ 1099511627776000) (hp : List.length ps = n * 2 + 2) (hq : List.length qs = 0 * 2 + 2) (eP : ptAt ps (↑n : Int) (-77) (-77)) (eR : Value.agg (List.toArray (List.take 2 (List.drop 0 qs))) = (a2 (-77) (-77))) (kS : CallSpec Try.prog 31 [fV (lentV 0 n) fl ce (lentV 1 0), fV (slB 2 n n) fl ce (slD 3)] [.own 39 ps, .own 39 qs, .ro 39 cs, .dead] (.mk (.bool true) [.own 39 ps, .own 39 qs, .ro 39 cs, .dead] []))
include n cs ps qs fl ce hn hp hq eP eR kS
theorem kept_bd_p : go (exec (Try.prog) (8) (20) ([fV (lentV 0 n) fl ce (lentV 1 0), fV (slB 2 n n) fl ce (slD 3)]) ([.own 39 ps, .own 39 qs, .ro 39 cs, .dead])) [(16, Itm.val (.int .i64 ((↑n : Int) + 1))), (0, Itm.must), (21, .call (.mk (.bool true) [.own 39 ps, .own 39 qs, .ro 39 cs, .dead] [])), (13, Itm.must), (2, Itm.must), (0, Itm.val ((a2 (-77) (-77)))), (43, Itm.must), (0, Itm.val ((a2 (-77) (-77))))] = some (.mk (.bool true) [.own 39 ps, .own 39 qs, .ro 39 cs, .dead] [], true, [Value.int .i64 (IntKind.wrap .i64 ((↑n : Int) + 1)) = .int .i64 ((↑n : Int) + 1), upto ((↑n : Int) + 1) (n + 1) = true, type_of% kS, inside (↑n : Int) (Int.toNat ((↑n : Int) + 1) - 0) = true, decide (0 + Int.toNat (↑n : Int) * 2 + 2 ≤ List.length ps) = true, type_of% eP, decide (2 ≤ List.length qs) = true, type_of% eR]) := by kernel_rfl
theorem kept_bd (R : Res) (k_p : Res.le (.mk (.bool true) [.own 39 ps, .own 39 qs, .ro 39 cs, .dead] []) R) : CallSpec (Try.prog) (20) ([fV (lentV 0 n) fl ce (lentV 1 0), fV (slB 2 n n) fl ce (slD 3)]) ([.own 39 ps, .own 39 qs, .ro 39 cs, .dead]) R := by
  exact (CallSpec.id (go_ok (exec_ok tnamed tcalm tmixed _ _ _ _) (kept_bd_p n cs ps qs fl ce hn hp hq eP eR kS ) (aC (congrArg (Value.int _) (Go.IntWalk.i64_in _ (by omega))) (aC (upto_of (by omega)) (aC (kS) (aC (inside_of (by omega)) (aC dO (aC (eP) (aC dO (aC (eR) aN)))))))))).le (k_p )
end
section
variable (n : Nat) (cs : List Value) (m : Nat) (rs ps qs : List Value) (fl ce : Int) (kP : CallSpec Try.prog 67 [lentV 0 n, slB 1 n n] [.own 39 ps, .ro 39 cs] (.mk (.bool true) [.own 39 ps, .ro 39 cs] [])) (kR : CallSpec Try.prog 67 [lentV 0 m, slB 1 m m] [.own 39 qs, .ro 39 rs] (.mk (.bool true) [.own 39 qs, .ro 39 rs] []))
include n cs m rs ps qs fl ce kP kR
theorem same_bb_p : go (exec (Try.prog) (8) (31) ([fV (lentV 0 n) fl ce (lentV 1 m), fV (slB 2 n n) fl ce (slB 3 m m)]) ([.own 39 ps, .own 39 qs, .ro 39 cs, .ro 39 rs])) [(15, .call (.mk (.bool true) [.own 39 ps, .ro 39 cs] [])), (20, .dec true), (1, .dec true), (3, .dec true), (1, .dec true), (3, .dec true), (1, .dec true), (2, .dec true), (1, .dec true), (2, .dec true), (1, .dec true), (2, .dec true), (0, .call (.mk (.bool true) [.own 39 qs, .ro 39 rs] [])), (2, .dec true)] = some (.mk (.bool true) [.own 39 ps, .own 39 qs, .ro 39 cs, .ro 39 rs] [], true, [type_of% kP, decide (fl = fl) = true, decide (fl = fl) = true, decide (fl = fl) = true, decide (fl = fl) = true, decide (fl = fl) = true, decide (fl = fl) = true, decide (ce = ce) = true, decide (ce = ce) = true, decide (ce = ce) = true, decide (ce = ce) = true, decide (ce = ce) = true, type_of% kR, decide (ce = ce) = true]) := by kernel_rfl
theorem same_bb (R : Res) (k_p : Res.le (.mk (.bool true) [.own 39 ps, .own 39 qs, .ro 39 cs, .ro 39 rs] []) R) : CallSpec (Try.prog) (31) ([fV (lentV 0 n) fl ce (lentV 1 m), fV (slB 2 n n) fl ce (slB 3 m m)]) ([.own 39 ps, .own 39 qs, .ro 39 cs, .ro 39 rs]) R := by
  exact (CallSpec.id (go_ok (exec_ok tnamed tcalm tmixed _ _ _ _) (same_bb_p n cs m rs ps qs fl ce kP kR ) (aC (kP) (aC dO (aC dO (aC dO (aC dO (aC dO (aC dO (aC dO (aC dO (aC dO (aC dO (aC dO (aC (kR) (aC dO aN)))))))))))))))).le (k_p )
end
section
variable (n : Nat) (cs : List Value) (m : Nat) (rs ps qs : List Value) (fl ce : Int) (hn : n ≤ 1099511627776000 ∧ m ≤ 1099511627776000) (hp : List.length ps = n * 2 + 2) (hq : List.length qs = m * 2 + 2) (eP : ptAt ps (↑n : Int) (-77) (-77)) (eR : ptAt qs (↑m : Int) (-77) (-77)) (kS : CallSpec Try.prog 31 [fV (lentV 0 n) fl ce (lentV 1 m), fV (slB 2 n n) fl ce (slB 3 m m)] [.own 39 ps, .own 39 qs, .ro 39 cs, .ro 39 rs] (.mk (.bool true) [.own 39 ps, .own 39 qs, .ro 39 cs, .ro 39 rs] []))
include n cs m rs ps qs fl ce hn hp hq eP eR kS
theorem kept_bb_p : go (exec (Try.prog) (8) (20) ([fV (lentV 0 n) fl ce (lentV 1 m), fV (slB 2 n n) fl ce (slB 3 m m)]) ([.own 39 ps, .own 39 qs, .ro 39 cs, .ro 39 rs])) [(16, Itm.val (.int .i64 ((↑n : Int) + 1))), (0, Itm.must), (11, Itm.val (.int .i64 ((↑m : Int) + 1))), (0, Itm.must), (8, .call (.mk (.bool true) [.own 39 ps, .own 39 qs, .ro 39 cs, .ro 39 rs] [])), (13, Itm.must), (2, Itm.must), (0, Itm.val ((a2 (-77) (-77)))), (40, Itm.must), (2, Itm.must), (0, Itm.val ((a2 (-77) (-77))))] = some (.mk (.bool true) [.own 39 ps, .own 39 qs, .ro 39 cs, .ro 39 rs] [], true, [Value.int .i64 (IntKind.wrap .i64 ((↑n : Int) + 1)) = .int .i64 ((↑n : Int) + 1), upto ((↑n : Int) + 1) (n + 1) = true, Value.int .i64 (IntKind.wrap .i64 ((↑m : Int) + 1)) = .int .i64 ((↑m : Int) + 1), upto ((↑m : Int) + 1) (m + 1) = true, type_of% kS, inside (↑n : Int) (Int.toNat ((↑n : Int) + 1) - 0) = true, decide (0 + Int.toNat (↑n : Int) * 2 + 2 ≤ List.length ps) = true, type_of% eP, inside (↑m : Int) (Int.toNat ((↑m : Int) + 1) - 0) = true, decide (0 + Int.toNat (↑m : Int) * 2 + 2 ≤ List.length qs) = true, type_of% eR]) := by kernel_rfl
theorem kept_bb (R : Res) (k_p : Res.le (.mk (.bool true) [.own 39 ps, .own 39 qs, .ro 39 cs, .ro 39 rs] []) R) : CallSpec (Try.prog) (20) ([fV (lentV 0 n) fl ce (lentV 1 m), fV (slB 2 n n) fl ce (slB 3 m m)]) ([.own 39 ps, .own 39 qs, .ro 39 cs, .ro 39 rs]) R := by
  exact (CallSpec.id (go_ok (exec_ok tnamed tcalm tmixed _ _ _ _) (kept_bb_p n cs m rs ps qs fl ce hn hp hq eP eR kS ) (aC (congrArg (Value.int _) (Go.IntWalk.i64_in _ (by omega))) (aC (upto_of (by omega)) (aC (congrArg (Value.int _) (Go.IntWalk.i64_in _ (by omega))) (aC (upto_of (by omega)) (aC (kS) (aC (inside_of (by omega)) (aC dO (aC (eP) (aC (inside_of (by omega)) (aC dO (aC (eR) aN))))))))))))).le (k_p )
end
end Go.Proofs.Ytjalkjeldlchoaa.Ex
end
section
set_option linter.unusedSectionVars false
set_option linter.unusedSimpArgs false
set_option linter.unusedVariables false
namespace Go.Proofs.Ytjalkjeldlchoaa.Ex
open Go
set_option linter.unusedVariables false
section
variable (ps qs : List Value) (fl ce : Int) (kP : CallSpec Try.prog 35 [slN] [] (.mk (lentV 0 0) [.own 39 ps] [])) (kR : CallSpec Try.prog 35 [slN] [] (.mk (lentV 0 0) [.own 39 qs] []))
include ps qs fl ce kP kR
theorem lent_nn_p : go (exec (Try.prog) (8) (16) ([fV slN fl ce slN]) ([])) [(21, .call (.mk ((sB 0 0 1)) [.own 39 ps] [])), (11, .call (.mk ((sB 0 0 1)) [.own 39 qs] []))] = some (.mk (.agg #[(sB 0 0 1), .int .i64 fl, .int .i64 ce, (sB 1 0 1)]) [.own 39 ps, .own 39 qs] [], true, [type_of% kP, type_of% kR]) := by kernel_rfl
theorem lent_nn (R : Res) (k_p : Res.le (.mk (.agg #[(sB 0 0 1), .int .i64 fl, .int .i64 ce, (sB 1 0 1)]) [.own 39 ps, .own 39 qs] []) R) : CallSpec (Try.prog) (16) ([fV slN fl ce slN]) ([]) R := by
  exact (CallSpec.id (go_ok (exec_ok tnamed tcalm tmixed _ _ _ _) (lent_nn_p ps qs fl ce kP kR ) (aC (kP) (aC (kR) aN)))).le (k_p )
end
section
variable (ps qs : List Value) (fl ce : Int) (kP : CallSpec Try.prog 35 [slN] [] (.mk (lentV 0 0) [.own 39 ps] [])) (kR : CallSpec Try.prog 35 [slD 0] [.dead] (.mk (lentV 1 0) [.dead, .own 39 qs] []))
include ps qs fl ce kP kR
theorem lent_nd_p : go (exec (Try.prog) (8) (16) ([fV slN fl ce (slD 0)]) ([.dead])) [(21, .call (.mk ((sB 0 0 1)) [.own 39 ps] [])), (11, .call (.mk ((sB 1 0 1)) [.dead, .own 39 qs] []))] = some (.mk (.agg #[(sB 1 0 1), .int .i64 fl, .int .i64 ce, (sB 2 0 1)]) [.dead, .own 39 ps, .own 39 qs] [], true, [type_of% kP, type_of% kR]) := by kernel_rfl
theorem lent_nd (R : Res) (k_p : Res.le (.mk (.agg #[(sB 1 0 1), .int .i64 fl, .int .i64 ce, (sB 2 0 1)]) [.dead, .own 39 ps, .own 39 qs] []) R) : CallSpec (Try.prog) (16) ([fV slN fl ce (slD 0)]) ([.dead]) R := by
  exact (CallSpec.id (go_ok (exec_ok tnamed tcalm tmixed _ _ _ _) (lent_nd_p ps qs fl ce kP kR ) (aC (kP) (aC (kR) aN)))).le (k_p )
end
section
variable (m : Nat) (rs ps qs : List Value) (fl ce : Int) (kP : CallSpec Try.prog 35 [slN] [] (.mk (lentV 0 0) [.own 39 ps] [])) (kR : CallSpec Try.prog 35 [slB 0 m m] [.ro 39 rs] (.mk (lentV 1 m) [.ro 39 rs, .own 39 qs] []))
include m rs ps qs fl ce kP kR
theorem lent_nb_p : go (exec (Try.prog) (8) (16) ([fV slN fl ce (slB 0 m m)]) ([.ro 39 rs])) [(21, .call (.mk ((sB 0 0 1)) [.own 39 ps] [])), (11, .call (.mk (.slice (some (.mk (List.length [Blk.ro 39 rs]) 0 none)) m (m + 1)) [.ro 39 rs, .own 39 qs] []))] = some (.mk (.agg #[(sB 1 0 1), .int .i64 fl, .int .i64 ce, (sB 2 m (m + 1))]) [.ro 39 rs, .own 39 ps, .own 39 qs] [], true, [type_of% kP, type_of% kR]) := by kernel_rfl
theorem lent_nb (R : Res) (k_p : Res.le (.mk (.agg #[(sB 1 0 1), .int .i64 fl, .int .i64 ce, (sB 2 m (m + 1))]) [.ro 39 rs, .own 39 ps, .own 39 qs] []) R) : CallSpec (Try.prog) (16) ([fV slN fl ce (slB 0 m m)]) ([.ro 39 rs]) R := by
  exact (CallSpec.id (go_ok (exec_ok tnamed tcalm tmixed _ _ _ _) (lent_nb_p m rs ps qs fl ce kP kR ) (aC (kP) (aC (kR) aN)))).le (k_p )
end
section
variable (ps qs : List Value) (fl ce : Int) (kP : CallSpec Try.prog 35 [slD 0] [.dead] (.mk (lentV 1 0) [.dead, .own 39 ps] [])) (kR : CallSpec Try.prog 35 [slN] [] (.mk (lentV 0 0) [.own 39 qs] []))
include ps qs fl ce kP kR
theorem lent_dn_p : go (exec (Try.prog) (8) (16) ([fV (slD 0) fl ce slN]) ([.dead])) [(21, .call (.mk ((sB 1 0 1)) [.dead, .own 39 ps] [])), (11, .call (.mk ((sB 0 0 1)) [.own 39 qs] []))] = some (.mk (.agg #[(sB 1 0 1), .int .i64 fl, .int .i64 ce, (sB 2 0 1)]) [.dead, .own 39 ps, .own 39 qs] [], true, [type_of% kP, type_of% kR]) := by kernel_rfl
theorem lent_dn (R : Res) (k_p : Res.le (.mk (.agg #[(sB 1 0 1), .int .i64 fl, .int .i64 ce, (sB 2 0 1)]) [.dead, .own 39 ps, .own 39 qs] []) R) : CallSpec (Try.prog) (16) ([fV (slD 0) fl ce slN]) ([.dead]) R := by
  exact (CallSpec.id (go_ok (exec_ok tnamed tcalm tmixed _ _ _ _) (lent_dn_p ps qs fl ce kP kR ) (aC (kP) (aC (kR) aN)))).le (k_p )
end
section
variable (ps qs : List Value) (fl ce : Int) (kP : CallSpec Try.prog 35 [slD 0] [.dead] (.mk (lentV 1 0) [.dead, .own 39 ps] [])) (kR : CallSpec Try.prog 35 [slD 0] [.dead] (.mk (lentV 1 0) [.dead, .own 39 qs] []))
include ps qs fl ce kP kR
theorem lent_dd_p : go (exec (Try.prog) (8) (16) ([fV (slD 0) fl ce (slD 1)]) ([.dead, .dead])) [(21, .call (.mk ((sB 1 0 1)) [.dead, .own 39 ps] [])), (11, .call (.mk ((sB 1 0 1)) [.dead, .own 39 qs] []))] = some (.mk (.agg #[(sB 2 0 1), .int .i64 fl, .int .i64 ce, (sB 3 0 1)]) [.dead, .dead, .own 39 ps, .own 39 qs] [], true, [type_of% kP, type_of% kR]) := by kernel_rfl
theorem lent_dd (R : Res) (k_p : Res.le (.mk (.agg #[(sB 2 0 1), .int .i64 fl, .int .i64 ce, (sB 3 0 1)]) [.dead, .dead, .own 39 ps, .own 39 qs] []) R) : CallSpec (Try.prog) (16) ([fV (slD 0) fl ce (slD 1)]) ([.dead, .dead]) R := by
  exact (CallSpec.id (go_ok (exec_ok tnamed tcalm tmixed _ _ _ _) (lent_dd_p ps qs fl ce kP kR ) (aC (kP) (aC (kR) aN)))).le (k_p )
end
section
variable (m : Nat) (rs ps qs : List Value) (fl ce : Int) (kP : CallSpec Try.prog 35 [slD 0] [.dead] (.mk (lentV 1 0) [.dead, .own 39 ps] [])) (kR : CallSpec Try.prog 35 [slB 0 m m] [.ro 39 rs] (.mk (lentV 1 m) [.ro 39 rs, .own 39 qs] []))
include m rs ps qs fl ce kP kR
theorem lent_db_p : go (exec (Try.prog) (8) (16) ([fV (slD 0) fl ce (slB 1 m m)]) ([.dead, .ro 39 rs])) [(21, .call (.mk ((sB 1 0 1)) [.dead, .own 39 ps] [])), (11, .call (.mk (.slice (some (.mk (List.length [Blk.ro 39 rs]) 0 none)) m (m + 1)) [.ro 39 rs, .own 39 qs] []))] = some (.mk (.agg #[(sB 2 0 1), .int .i64 fl, .int .i64 ce, (sB 3 m (m + 1))]) [.dead, .ro 39 rs, .own 39 ps, .own 39 qs] [], true, [type_of% kP, type_of% kR]) := by kernel_rfl
theorem lent_db (R : Res) (k_p : Res.le (.mk (.agg #[(sB 2 0 1), .int .i64 fl, .int .i64 ce, (sB 3 m (m + 1))]) [.dead, .ro 39 rs, .own 39 ps, .own 39 qs] []) R) : CallSpec (Try.prog) (16) ([fV (slD 0) fl ce (slB 1 m m)]) ([.dead, .ro 39 rs]) R := by
  exact (CallSpec.id (go_ok (exec_ok tnamed tcalm tmixed _ _ _ _) (lent_db_p m rs ps qs fl ce kP kR ) (aC (kP) (aC (kR) aN)))).le (k_p )
end
section
variable (n : Nat) (cs ps qs : List Value) (fl ce : Int) (kP : CallSpec Try.prog 35 [slB 0 n n] [.ro 39 cs] (.mk (lentV 1 n) [.ro 39 cs, .own 39 ps] [])) (kR : CallSpec Try.prog 35 [slN] [] (.mk (lentV 0 0) [.own 39 qs] []))
include n cs ps qs fl ce kP kR
theorem lent_bn_p : go (exec (Try.prog) (8) (16) ([fV (slB 0 n n) fl ce slN]) ([.ro 39 cs])) [(21, .call (.mk (.slice (some (.mk (List.length [Blk.ro 39 cs]) 0 none)) n (n + 1)) [.ro 39 cs, .own 39 ps] [])), (11, .call (.mk ((sB 0 0 1)) [.own 39 qs] []))] = some (.mk (.agg #[(sB 1 n (n + 1)), .int .i64 fl, .int .i64 ce, (sB 2 0 1)]) [.ro 39 cs, .own 39 ps, .own 39 qs] [], true, [type_of% kP, type_of% kR]) := by kernel_rfl
theorem lent_bn (R : Res) (k_p : Res.le (.mk (.agg #[(sB 1 n (n + 1)), .int .i64 fl, .int .i64 ce, (sB 2 0 1)]) [.ro 39 cs, .own 39 ps, .own 39 qs] []) R) : CallSpec (Try.prog) (16) ([fV (slB 0 n n) fl ce slN]) ([.ro 39 cs]) R := by
  exact (CallSpec.id (go_ok (exec_ok tnamed tcalm tmixed _ _ _ _) (lent_bn_p n cs ps qs fl ce kP kR ) (aC (kP) (aC (kR) aN)))).le (k_p )
end
section
variable (n : Nat) (cs ps qs : List Value) (fl ce : Int) (kP : CallSpec Try.prog 35 [slB 0 n n] [.ro 39 cs] (.mk (lentV 1 n) [.ro 39 cs, .own 39 ps] [])) (kR : CallSpec Try.prog 35 [slD 0] [.dead] (.mk (lentV 1 0) [.dead, .own 39 qs] []))
include n cs ps qs fl ce kP kR
theorem lent_bd_p : go (exec (Try.prog) (8) (16) ([fV (slB 0 n n) fl ce (slD 1)]) ([.ro 39 cs, .dead])) [(21, .call (.mk (.slice (some (.mk (List.length [Blk.ro 39 cs]) 0 none)) n (n + 1)) [.ro 39 cs, .own 39 ps] [])), (11, .call (.mk ((sB 1 0 1)) [.dead, .own 39 qs] []))] = some (.mk (.agg #[(sB 2 n (n + 1)), .int .i64 fl, .int .i64 ce, (sB 3 0 1)]) [.ro 39 cs, .dead, .own 39 ps, .own 39 qs] [], true, [type_of% kP, type_of% kR]) := by kernel_rfl
theorem lent_bd (R : Res) (k_p : Res.le (.mk (.agg #[(sB 2 n (n + 1)), .int .i64 fl, .int .i64 ce, (sB 3 0 1)]) [.ro 39 cs, .dead, .own 39 ps, .own 39 qs] []) R) : CallSpec (Try.prog) (16) ([fV (slB 0 n n) fl ce (slD 1)]) ([.ro 39 cs, .dead]) R := by
  exact (CallSpec.id (go_ok (exec_ok tnamed tcalm tmixed _ _ _ _) (lent_bd_p n cs ps qs fl ce kP kR ) (aC (kP) (aC (kR) aN)))).le (k_p )
end
section
variable (n : Nat) (cs : List Value) (m : Nat) (rs ps qs : List Value) (fl ce : Int) (kP : CallSpec Try.prog 35 [slB 0 n n] [.ro 39 cs] (.mk (lentV 1 n) [.ro 39 cs, .own 39 ps] [])) (kR : CallSpec Try.prog 35 [slB 0 m m] [.ro 39 rs] (.mk (lentV 1 m) [.ro 39 rs, .own 39 qs] []))
include n cs m rs ps qs fl ce kP kR
theorem lent_bb_p : go (exec (Try.prog) (8) (16) ([fV (slB 0 n n) fl ce (slB 1 m m)]) ([.ro 39 cs, .ro 39 rs])) [(21, .call (.mk (.slice (some (.mk (List.length [Blk.ro 39 cs]) 0 none)) n (n + 1)) [.ro 39 cs, .own 39 ps] [])), (11, .call (.mk (.slice (some (.mk (List.length [Blk.ro 39 rs]) 0 none)) m (m + 1)) [.ro 39 rs, .own 39 qs] []))] = some (.mk (.agg #[(sB 2 n (n + 1)), .int .i64 fl, .int .i64 ce, (sB 3 m (m + 1))]) [.ro 39 cs, .ro 39 rs, .own 39 ps, .own 39 qs] [], true, [type_of% kP, type_of% kR]) := by kernel_rfl
theorem lent_bb (R : Res) (k_p : Res.le (.mk (.agg #[(sB 2 n (n + 1)), .int .i64 fl, .int .i64 ce, (sB 3 m (m + 1))]) [.ro 39 cs, .ro 39 rs, .own 39 ps, .own 39 qs] []) R) : CallSpec (Try.prog) (16) ([fV (slB 0 n n) fl ce (slB 1 m m)]) ([.ro 39 cs, .ro 39 rs]) R := by
  exact (CallSpec.id (go_ok (exec_ok tnamed tcalm tmixed _ _ _ _) (lent_bb_p n cs m rs ps qs fl ce kP kR ) (aC (kP) (aC (kR) aN)))).le (k_p )
end
end Go.Proofs.Ytjalkjeldlchoaa.Ex
end
section
set_option linter.unusedSectionVars false
set_option linter.unusedSimpArgs false
set_option linter.unusedVariables false
namespace Go.Proofs.Ytjalkjeldlchoaa.Ex
open Go Go.RowKit Go.Proofs.Ytjalkjeldlchoaa.X
set_option linter.unusedVariables false
def Pk.Fits (P : Pk) : Prop := P.list.length * 16 ≤ 140737488351232
theorem Pk.Fits.n {P : Pk} (h : P.Fits) : P.list.length ≤ 1099511627776000 := by unfold Pk.Fits at h; omega
theorem lent_done (P R : Pk) (fl ce : Int) (hP : P.Fits) (hR : R.Fits) : CallSpec Try.prog 16 [fA P R fl ce] (fH P R) ⟨fV (lentV (fH P R).length P.list.length) fl ce (lentV ((fH P R).length + 1) R.list.length), fH P R ++ [lentB P.list, lentB R.list], []⟩ := by
  have kP := spare_done P hP
  have kR := spare_done R hR
  cases P <;> cases R
  · exact lent_nn _ _ _ _ kP kR _ res_refl
  · exact lent_nd _ _ _ _ kP kR _ res_refl
  · exact lent_nb _ _ _ _ _ _ kP kR _ res_refl
  · exact lent_dn _ _ _ _ kP kR _ res_refl
  · exact lent_dd _ _ _ _ kP kR _ res_refl
  · exact lent_db _ _ _ _ _ _ kP kR _ res_refl
  · exact lent_bn _ _ _ _ _ _ kP kR _ res_refl
  · exact lent_bd _ _ _ _ _ _ kP kR _ res_refl
  · exact lent_bb _ _ _ _ _ _ _ _ kP kR _ res_refl
abbrev ownV (P R : Pk) (fl ce : Int) : Value := fV (lentV 0 P.list.length) fl ce (lentV 1 R.list.length)
abbrev ownH (P R : Pk) : Hp := [lentB P.list, lentB R.list]
theorem lent_len (l : List S23) : (pc l ++ mkP).length = l.length * 2 + 2 := by rw [List.length_append, pc_len]; rfl
theorem kept_done (P R : Pk) (fl ce : Int) (hP : P.Fits) (hR : R.Fits) : CallSpec Try.prog 20 [ownV P R fl ce, fV (P.val 2) fl ce (R.val (2 + P.hp.length))] (ownH P R ++ fH P R) ⟨.bool true, ownH P R ++ fH P R, []⟩ := by
  have kP := sp_lent P hP.n
  have kR := sp_lent R hR.n
  have eP := ptAt_end P.list (-77) (-77) []
  have eR := ptAt_end R.list (-77) (-77) []
  have hn := And.intro hP.n hR.n
  have lP := lent_len P.list
  have lR := lent_len R.list
  cases P <;> cases R
  · exact kept_nn _ _ _ _ hn lP lR eP eR (same_nn _ _ _ _ kP kR _ res_refl) _ res_refl
  · exact kept_nd _ _ _ _ hn lP lR eP eR (same_nd _ _ _ _ kP kR _ res_refl) _ res_refl
  · exact kept_nb _ _ _ _ _ _ hn lP lR eP eR (same_nb _ _ _ _ _ _ kP kR _ res_refl) _ res_refl
  · exact kept_dn _ _ _ _ hn lP lR eP eR (same_dn _ _ _ _ kP kR _ res_refl) _ res_refl
  · exact kept_dd _ _ _ _ hn lP lR eP eR (same_dd _ _ _ _ kP kR _ res_refl) _ res_refl
  · exact kept_db _ _ _ _ _ _ hn lP lR eP eR (same_db _ _ _ _ _ _ kP kR _ res_refl) _ res_refl
  · exact kept_bn _ _ _ _ _ _ hn lP lR eP eR (same_bn _ _ _ _ _ _ kP kR _ res_refl) _ res_refl
  · exact kept_bd _ _ _ _ _ _ hn lP lR eP eR (same_bd _ _ _ _ _ _ kP kR _ res_refl) _ res_refl
  · exact kept_bb _ _ _ _ _ _ _ _ hn lP lR eP eR (same_bb _ _ _ _ _ _ _ _ kP kR _ res_refl) _ res_refl
theorem Pk.Fits.m {P : Pk} (h : P.Fits) : P.list.length ≤ 9223372036854775807 := by unfold Pk.Fits at h; omega
end Go.Proofs.Ytjalkjeldlchoaa.Ex
end
section
set_option linter.unusedSectionVars false
set_option linter.unusedSimpArgs false
set_option linter.unusedVariables false
namespace Go.Proofs.Ytjalkjeldlchoaa.Ex
open Go Go.RowKit Go.Proofs.Ytjalkjeldlchoaa.X
set_option linter.unusedVariables false
def Wider (b b' : Blk) : Prop := b' = b ∨ ∃ e cs x, b = .ro e cs ∧ b' = .own e (cs ++ x)
theorem RepBlk.wide {P : Program} {ν : Nu} {w : World} {id : Nat} {b b' : Blk} (h : Wider b b') (hr : RepBlk P ν w id b') : RepBlk P ν w id b := by
  rcases h with rfl | ⟨e, cs, x, rfl, rfl⟩
  · exact hr
  · have h := RepBlk.soft soft_own hr
    obtain ⟨N, h1, h2, h3, cs', h4, h5⟩ := h
    refine ⟨N, h1, h2, h3, (cs'.drop 0).take cs.length, ?_, fun i v hi => ?_⟩
    · have := h4.slice 0 cs.length
      rwa [List.drop_zero, List.take_left] at this
    · rw [List.drop_zero, List.getElem?_take] at hi
      split at hi
      · exact h5 i v hi
      · cases hi
theorem Rep.wide {P : Program} {hp hp' : Hp} {ν : Nu} {w : World} (hl : hp.length = hp'.length) (h : ∀ id, Wider (hp.getD id .dead) (hp'.getD id .dead)) (hr : Rep P ν hp' w) : Rep P ν hp w where
  dom id hid := hr.dom id (by omega)
  blk id := (hr.blk id).wide (h id)
  sep i j N K hij hi hj := by
    refine hr.sep i j N K hij ?_ ?_
    · rcases h i with e | ⟨e, cs, x, h1, h2⟩
      · rw [e]; exact hi
      · rw [h2]; rfl
    · rcases h j with e | ⟨e, cs, x, h1, h2⟩
      · rw [e]; exact hj
      · rw [h2]; rfl
theorem CallSpec.wide {P : Program} {f : FuncId} {args : List Value} {hp hp' : Hp} {v : Value} (h : CallSpec P f args hp ⟨v, hp, []⟩) (hv : flat v = true) (hl : hp.length = hp'.length) (hs : ∀ id, Wider (hp.getD id .dead) (hp'.getD id .dead)) : CallSpec P f args hp' ⟨v, hp', []⟩ :=
  CallSpec.of_below hv fun ν w args' ha hr => h.below hv ha (Rep.wide hl hs hr)
theorem wide_cons {b b' : Blk} {h h' : Hp} (hb : Wider b b') (hh : ∀ id, Wider (h.getD id .dead) (h'.getD id .dead)) : ∀ id, Wider ((b :: h).getD id .dead) ((b' :: h').getD id .dead)
  | 0 => hb
  | id + 1 => hh id
theorem wide_same (h : Hp) : ∀ id, Wider (h.getD id .dead) (h.getD id .dead) := fun _ => .inl rfl
theorem wide_own {e : TypeId} {cs x : List Value} : Wider (.ro e cs) (.own e (cs ++ x)) := .inr ⟨e, cs, x, rfl, rfl⟩
theorem wide_lent (P R : Pk) : ∀ id, Wider ([Blk.ro 39 (pc P.list), .ro 39 (pc R.list)].getD id .dead) ((ownH P R).getD id .dead) := wide_cons wide_own (wide_cons wide_own (wide_same []))
theorem check_own (P R : Pk) (fl ce : Int) (hP : P.Fits) : CallSpec Try.prog 18 [ownV P R fl ce] (ownH P R) ⟨.int .i64 (checkV P.list R.list fl ce), ownH P R, []⟩ :=
  (check_bb (l := P.list) (r := R.list) (c := P.list.length + 1) (d := R.list.length + 1) (fl := fl) (ce := ce) hP.m).wide rfl rfl (wide_lent P R)
end Go.Proofs.Ytjalkjeldlchoaa.Ex
end
section
set_option linter.unusedSectionVars false
set_option linter.unusedSimpArgs false
set_option linter.unusedVariables false
namespace Go.Proofs.Ytjalkjeldlchoaa.Ex
open Go Go.ChangeShapes Go.WideShapes Go.ChangeAt Go.RowKit Go.Proofs.Ytjalkjeldlchoaa.X
set_option linter.unusedVariables false
set_option linter.unusedSimpArgs false
def Plain (b : Blk) : Prop := b = .dead ∨ ∃ e cs, b = .ro e cs ∧ cs.all flat1 = true
theorem RepBlk.move {P : Program} {ν ν' : Nu} {W : World} {id id' : Nat} {b : Blk} (hb : Plain b) (e : ν' id' = ν id) (h : RepBlk P ν W id b) : RepBlk P ν' W id' b := by
  rcases hb with rfl | ⟨t, cs, rfl, hf⟩
  · exact trivial
  · obtain ⟨N, h1, h2, h3, cs', h4, h5⟩ := h
    obtain rfl := (flat_L2 hf).1 (cr_vr h4)
    exact ⟨N, e.trans h1, h2, h3, cs', CR.of ((flat_L2 hf).2 rfl) (by rw [hf]; simp), h5⟩
def join (n : Nat) (ν1 ν2 : Nu) : Nu := fun id => if id < n then ν1 id else ν2 (id - n)
theorem plain_get {hp : Hp} (h : ∀ b ∈ hp, Plain b) (i : Nat) : Plain (hp.getD i .dead) := by
  rw [List.getD_eq_getElem?_getD]
  cases hi : hp[i]? with
  | none => exact .inl rfl
  | some b => exact h b (List.mem_of_getElem? hi)
theorem plain_own {b : Blk} (h : Plain b) : b.isOwn = false := by
  rcases h with rfl | ⟨e, cs, rfl, _⟩ <;> rfl
theorem rep_two {P : Program} {ν1 ν2 : Nu} {W : World} {hp1 hp2 : Hp} (p1 : ∀ b ∈ hp1, Plain b) (p2 : ∀ b ∈ hp2, Plain b) (h1 : Rep P ν1 hp1 W) (h2 : Rep P ν2 hp2 W) : Rep P (join hp1.length ν1 ν2) (hp1 ++ hp2) W := by
  have get : ∀ id, (hp1 ++ hp2).getD id .dead = if id < hp1.length then hp1.getD id .dead else hp2.getD (id - hp1.length) .dead := fun id => by
    simp only [List.getD_eq_getElem?_getD]
    split
    · rw [List.getElem?_append_left (by assumption)]
    · rw [List.getElem?_append_right (by omega)]
  have all : ∀ id, Plain ((hp1 ++ hp2).getD id .dead) := fun id => by
    rw [get]
    split
    · exact plain_get p1 _
    · exact plain_get p2 _
  refine ⟨fun id hid => ?_, fun id => ?_, fun i j N K hij hi => ?_⟩
  · rw [List.length_append] at hid
    unfold join
    rw [if_neg (by omega)]
    exact h2.dom _ (by omega)
  · rw [get]
    by_cases c : id < hp1.length
    · rw [if_pos c]
      exact (h1.blk id).move (plain_get p1 _) (by unfold join; rw [if_pos c])
    · rw [if_neg c]
      exact (h2.blk (id - hp1.length)).move (plain_get p2 _) (by unfold join; rw [if_neg c])
  · rw [plain_own (all i)] at hi
    cases hi
theorem Pk.plain (P : Pk) : ∀ b ∈ P.hp, Plain b := by
  cases P with
  | nil => exact fun b hb => by cases hb
  | emp => exact fun b hb => by rw [List.mem_singleton.1 hb]; exact .inl rfl
  | pts l => exact fun b hb => by rw [List.mem_singleton.1 hb]; exact .inr ⟨_, _, rfl, pc_flat l⟩
theorem val_at {P : Pk} {b : Nat} {ν ν' : Nu} {v : Value} (e : ν' b = ν 0) (h : VR ν (P.val 0) v) : VR ν' (P.val b) v := by
  cases P with
  | nil => exact h
  | emp =>
    obtain ⟨a, c, h1, h2, h3, h4⟩ := h
    exact ⟨a, c, h1, h2, h3, fun h => let ⟨N, k1, k2, k3⟩ := h4 h; ⟨N, e.trans k1, k2, k3⟩⟩
  | pts l =>
    obtain ⟨a, c, h1, h2, h3, h4⟩ := h
    exact ⟨a, c, h1, h2, h3, fun h => let ⟨N, k1, k2, k3⟩ := h4 h; ⟨N, e.trans k1, k2, k3⟩⟩
theorem open_pts {H : Type} {enc : TypeId × Value → H} {W : World} {held : Bool} {fuel : Nat} {v : Value} {x : DataW H × List MemPlace} (ht : DataW.trod enc Try.prog W 0 (fun _ => true) held fuel 22 [v] = some x) (hw : ∀ n ∈ x.1.weights Try.prog 22, n ≤ 140737488351232) :
    ∃ (P : Pk) (ν : Nu), VR ν (P.val 0) v ∧ Rep Try.prog ν P.hp W ∧ P.Fits := by
  rcases open_row 16 Try.underlying22 (by kernel_rfl) (by decide) (by kernel_rfl) (.inr trivial) (show OpF Try.prog 39 _ _ _ from OpF.struct Try.underlying39 (by kernel_rfl) (OpFs.cons rfl (OpF.int (k := .i64) (by kernel_rfl) Try.underlying3) (OpFs.one rfl (OpF.int (k := .i64) (by kernel_rfl) Try.underlying3)))) (by intro a; rfl) ht hw with rfl | ⟨ν, h1, h2⟩ | ⟨l, ν, h0, hb, hg, h1, h2⟩
  · exact ⟨.nil, fun _ => none, rfl, rep_none W, by show 0 * 16 ≤ _; omega⟩
  · exact ⟨.emp, ν, h1, h2, by show 0 * 16 ≤ _; omega⟩
  · have e : pc (l.map fun a => ⟨a.1, a.2⟩) = l.flatMap (fun a : Int × Int => [Value.int .i64 a.1] ++ [Value.int .i64 a.2]) := by
      unfold pc
      rw [List.flatMap_map]
      rfl
    refine ⟨.pts (l.map fun a => ⟨a.1, a.2⟩), ν, ?_, ?_, ?_⟩
    · show VR ν (.slice _ (List.length (l.map _)) (List.length (l.map _))) v
      rw [List.length_map]
      exact h1
    · show Rep Try.prog ν [.ro 39 (pc _)] W
      rw [e]
      exact h2
    · show (List.length (l.map _)) * 16 ≤ _
      rw [List.length_map]
      exact hb
set_option maxRecDepth 100000 in
/-- A fence. -/
theorem open_fence {H : Type} {enc : TypeId × Value → H} {W : World} {held : Bool} {fuel : Nat} {cs : Array Value} {x : DataW H × List MemPlace} (ht : DataW.trod enc Try.prog W 0 (fun _ => true) held fuel 24 (Value.agg cs).cells.toList = some x) (hw : ∀ n ∈ x.1.weights Try.prog 24, n ≤ 140737488351232) :
    ∃ (P R : Pk) (fl ce : Int) (ν : Nu), VR ν (fA P R fl ce) (.agg cs) ∧ Rep Try.prog ν (fH P R) W ∧ P.Fits ∧ R.Fits ∧ (Lit.int .i64 fl).wf = true ∧ (Lit.int .i64 ce).wf = true := by
  obtain ⟨xs, m, _, rfl, hl, hlen, hf⟩ := DataW.trod_struct Try.underlying24 ht
  have c24 : Try.prog.cellsOf 24 = 4 := by kernel_rfl
  have c3 : Try.prog.cellsOf 3 = 1 := by kernel_rfl
  have c22 : Try.prog.cellsOf 22 = 1 := by kernel_rfl
  rw [c24] at hl
  have hcs : (Value.agg cs).cells = cs := rfl
  rw [hcs] at hl hf
  obtain ⟨l⟩ := cs
  match l, hl with
  | [k0, k1, k2, k3], _ =>
    match xs, hlen with
    | [y0, y1, y2, y3], _ =>
      have f0 := hf 0 _ rfl
      have f1 := hf 1 _ rfl
      have f2 := hf 2 _ rfl
      have f3 := hf 3 _ rfl
      simp only [c3, c22] at f0 f1 f2 f3
      obtain ⟨fl, e1, _, g1⟩ := DataW.trod_int Try.underlying3 f1
      have e1 : [k1] = [.int .i64 fl] := e1
      cases e1
      obtain ⟨ce, e2, _, g2⟩ := DataW.trod_int Try.underlying3 f2
      have e2 : [k2] = [.int .i64 ce] := e2
      cases e2
      obtain ⟨P, ν1, p1, p2, p3⟩ := open_pts f0 fun k hk => hw k (by
        simp only [DataW.weights, Try.underlying24, List.map_cons, List.map_nil, DataW.weightsEach, List.mem_append]
        exact .inl hk)
      obtain ⟨R, ν2, r1, r2, r3⟩ := open_pts f3 fun k hk => hw k (by
        simp only [DataW.weights, Try.underlying24, List.map_cons, List.map_nil, DataW.weightsEach, List.mem_append]
        exact .inr (.inr (.inr (.inl hk))))
      refine ⟨P, R, fl, ce, join P.hp.length ν1 ν2, ⟨_, rfl, .cons ?_ (.cons rfl (.cons rfl (.cons ?_ .nil)))⟩, rep_two P.plain R.plain p2 r2, p3, r3, g1, g2⟩
      · have hv : VR (join P.hp.length ν1 ν2) (P.val 0) k0 := by
          cases P with
          | nil => exact p1
          | emp => exact val_at (P := .emp) rfl p1
          | pts l => exact val_at (P := .pts l) rfl p1
        cases P <;> exact hv
      · have hv : VR (join P.hp.length ν1 ν2) (R.val P.hp.length) k3 := val_at (by unfold join; rw [if_neg (by omega), Nat.sub_self]) r1
        cases R <;> exact hv
end Go.Proofs.Ytjalkjeldlchoaa.Ex
end
section
set_option linter.unusedSectionVars false
set_option linter.unusedSimpArgs false
set_option linter.unusedVariables false
namespace Go.Proofs.Ytjalkjeldlchoaa.Ex
open Go Go.ChangeShapes Go.WideShapes Go.ChangeAt Go.RowKit Go.Proofs.Ytjalkjeldlchoaa.X
set_option linter.unusedVariables false
theorem awake_done : CallSpec Try.prog 17 [] [] ⟨.bool true, [], []⟩ := awake_w _ ⟨rfl, rfl, fun _ h => h⟩
theorem flats_VR (ν : Nu) : ∀ l : List Value, l.all flat = true → L2 (VR ν) l l
  | [], _ => .nil
  | v :: l, h => by
    rw [List.all_cons, Bool.and_eq_true] at h
    exact .cons ((flat_VR h.1 _).2 rfl) (flats_VR ν l h.2)
theorem fence_row (W : World) {H : Type} {enc : TypeId × Value → H} {held : Bool} {fuel : Nat} {cs : Array Value} {x : DataW H × List MemPlace} (ht : DataW.trod enc Try.prog W 0 (fun _ => true) held fuel 24 (Value.agg cs).cells.toList = some x) (hw : ∀ n ∈ x.1.weights Try.prog 24, n ≤ 140737488351232)
    {f : FuncId} (rest : List Value) (hr : rest.all flat = true) (law : ∀ (P R : Pk) (fl ce : Int), P.Fits → R.Fits → (Lit.int .i64 fl).wf = true → (Lit.int .i64 ce).wf = true → CallSpec Try.prog f (fA P R fl ce :: rest) (fH P R) ⟨.bool true, fH P R, []⟩) :
    ∃ (args' : List Value) (hp hp' : Hp) (ν : Nu) (args0 : List Value), (Value.agg cs :: rest).toArray = args'.toArray ∧ L2 (VR ν) args0 args' ∧ Rep Try.prog ν hp W ∧ CallSpec Try.prog f args0 hp ⟨.bool true, hp', []⟩ := by
  obtain ⟨P, R, fl, ce, ν, h1, h2, hP, hR, g1, g2⟩ := open_fence ht hw
  exact ⟨_, _, _, ν, _, rfl, .cons h1 (flats_VR ν rest hr), h2, law P R fl ce hP hR g1 g2⟩
end Go.Proofs.Ytjalkjeldlchoaa.Ex
end
section
set_option linter.unusedSectionVars false
set_option linter.unusedSimpArgs false
set_option linter.unusedVariables false
namespace Go.Proofs.Ytjalkjeldlchoaa.Ex
open Go
set_option linter.unusedVariables false
section
variable (a0 a1 b0 b1 x0 x1 y0 y1 : Int)
include a0 a1 b0 b1 x0 x1 y0 y1
theorem rtouch_ok_pt : go (exec (Try.prog) (8) (81) ([pV a0 a1, pV b0 b1, pV x0 x1, pV y0 y1]) ([])) [(109, .call (.mk (.bool (X.inV a0 a1 x0 x1 y0 y1)) [] [])), (3, .dec true), (0, .dec true), (0, .dec true), (0, .dec true), (0, .dec true)] = some (.mk (.bool true) [] [], true, [CallSpec Try.prog 94 [(a2 a0 a1), (a2 x0 x1), (a2 y0 y1)] [] (.mk (.bool (X.inV a0 a1 x0 x1 y0 y1)) [] []), X.inV a0 a1 x0 x1 y0 y1 = true, X.inV a0 a1 x0 x1 y0 y1 = true, X.inV a0 a1 x0 x1 y0 y1 = true, X.inV a0 a1 x0 x1 y0 y1 = true, X.inV a0 a1 x0 x1 y0 y1 = true]) := by kernel_rfl
theorem rtouch_ok_pft : go (exec (Try.prog) (8) (81) ([pV a0 a1, pV b0 b1, pV x0 x1, pV y0 y1]) ([])) [(109, .call (.mk (.bool (X.inV a0 a1 x0 x1 y0 y1)) [] [])), (3, .dec false), (2, .dec false), (2, .dec false), (2, .dec false), (0, .call (.mk (.bool (X.inV b0 b1 x0 x1 y0 y1)) [] [])), (2, .dec false), (2, .dec true), (0, .dec true), (0, .dec true), (0, .dec true), (0, .dec true), (0, .dec true)] = some (.mk (.bool true) [] [], true, [CallSpec Try.prog 94 [(a2 a0 a1), (a2 x0 x1), (a2 y0 y1)] [] (.mk (.bool (X.inV a0 a1 x0 x1 y0 y1)) [] []), X.inV a0 a1 x0 x1 y0 y1 = false, X.inV a0 a1 x0 x1 y0 y1 = false, X.inV a0 a1 x0 x1 y0 y1 = false, X.inV a0 a1 x0 x1 y0 y1 = false, CallSpec Try.prog 94 [(a2 b0 b1), (a2 x0 x1), (a2 y0 y1)] [] (.mk (.bool (X.inV b0 b1 x0 x1 y0 y1)) [] []), X.inV a0 a1 x0 x1 y0 y1 = false, X.inV b0 b1 x0 x1 y0 y1 = true, X.inV b0 b1 x0 x1 y0 y1 = true, X.inV b0 b1 x0 x1 y0 y1 = true, X.inV b0 b1 x0 x1 y0 y1 = true, X.inV b0 b1 x0 x1 y0 y1 = true, X.inV b0 b1 x0 x1 y0 y1 = true]) := by kernel_rfl
theorem rtouch_ok_pfft : go (exec (Try.prog) (8) (81) ([pV a0 a1, pV b0 b1, pV x0 x1, pV y0 y1]) ([])) [(109, .call (.mk (.bool (X.inV a0 a1 x0 x1 y0 y1)) [] [])), (3, .dec false), (2, .dec false), (2, .dec false), (2, .dec false), (0, .call (.mk (.bool (X.inV b0 b1 x0 x1 y0 y1)) [] [])), (2, .dec false), (2, .dec false), (2, .dec false), (2, .dec false), (2, .dec false), (2, .dec false), (0, .call (.mk (.bool (X.commonV a0 a1 b0 b1 x0 y0 x1 y0)) [] [])), (2, .dec false), (2, .dec true), (0, .dec true), (0, .dec true), (0, .dec true), (0, .dec true), (0, .dec true)] = some (.mk (.bool true) [] [], true, [CallSpec Try.prog 94 [(a2 a0 a1), (a2 x0 x1), (a2 y0 y1)] [] (.mk (.bool (X.inV a0 a1 x0 x1 y0 y1)) [] []), X.inV a0 a1 x0 x1 y0 y1 = false, X.inV a0 a1 x0 x1 y0 y1 = false, X.inV a0 a1 x0 x1 y0 y1 = false, X.inV a0 a1 x0 x1 y0 y1 = false, CallSpec Try.prog 94 [(a2 b0 b1), (a2 x0 x1), (a2 y0 y1)] [] (.mk (.bool (X.inV b0 b1 x0 x1 y0 y1)) [] []), X.inV a0 a1 x0 x1 y0 y1 = false, X.inV b0 b1 x0 x1 y0 y1 = false, X.inV b0 b1 x0 x1 y0 y1 = false, X.inV b0 b1 x0 x1 y0 y1 = false, X.inV b0 b1 x0 x1 y0 y1 = false, X.inV b0 b1 x0 x1 y0 y1 = false, CallSpec Try.prog 91 [(a2 a0 a1), (a2 b0 b1), (a2 x0 y0), (a2 x1 y0)] [] (.mk (.bool (X.commonV a0 a1 b0 b1 x0 y0 x1 y0)) [] []), X.inV b0 b1 x0 x1 y0 y1 = false, X.commonV a0 a1 b0 b1 x0 y0 x1 y0 = true, X.commonV a0 a1 b0 b1 x0 y0 x1 y0 = true, X.commonV a0 a1 b0 b1 x0 y0 x1 y0 = true, X.commonV a0 a1 b0 b1 x0 y0 x1 y0 = true, X.commonV a0 a1 b0 b1 x0 y0 x1 y0 = true, X.commonV a0 a1 b0 b1 x0 y0 x1 y0 = true]) := by kernel_rfl
theorem rtouch_ok_pffft : go (exec (Try.prog) (8) (81) ([pV a0 a1, pV b0 b1, pV x0 x1, pV y0 y1]) ([])) [(109, .call (.mk (.bool (X.inV a0 a1 x0 x1 y0 y1)) [] [])), (3, .dec false), (2, .dec false), (2, .dec false), (2, .dec false), (0, .call (.mk (.bool (X.inV b0 b1 x0 x1 y0 y1)) [] [])), (2, .dec false), (2, .dec false), (2, .dec false), (2, .dec false), (2, .dec false), (2, .dec false), (0, .call (.mk (.bool (X.commonV a0 a1 b0 b1 x0 y0 x1 y0)) [] [])), (2, .dec false), (2, .dec false), (2, .dec false), (2, .dec false), (2, .dec false), (2, .dec false), (0, .call (.mk (.bool (X.commonV a0 a1 b0 b1 x1 y0 x1 y1)) [] [])), (2, .dec false), (2, .dec true), (0, .dec true), (0, .dec true), (0, .dec true), (0, .dec true), (0, .dec true)] = some (.mk (.bool true) [] [], true, [CallSpec Try.prog 94 [(a2 a0 a1), (a2 x0 x1), (a2 y0 y1)] [] (.mk (.bool (X.inV a0 a1 x0 x1 y0 y1)) [] []), X.inV a0 a1 x0 x1 y0 y1 = false, X.inV a0 a1 x0 x1 y0 y1 = false, X.inV a0 a1 x0 x1 y0 y1 = false, X.inV a0 a1 x0 x1 y0 y1 = false, CallSpec Try.prog 94 [(a2 b0 b1), (a2 x0 x1), (a2 y0 y1)] [] (.mk (.bool (X.inV b0 b1 x0 x1 y0 y1)) [] []), X.inV a0 a1 x0 x1 y0 y1 = false, X.inV b0 b1 x0 x1 y0 y1 = false, X.inV b0 b1 x0 x1 y0 y1 = false, X.inV b0 b1 x0 x1 y0 y1 = false, X.inV b0 b1 x0 x1 y0 y1 = false, X.inV b0 b1 x0 x1 y0 y1 = false, CallSpec Try.prog 91 [(a2 a0 a1), (a2 b0 b1), (a2 x0 y0), (a2 x1 y0)] [] (.mk (.bool (X.commonV a0 a1 b0 b1 x0 y0 x1 y0)) [] []), X.inV b0 b1 x0 x1 y0 y1 = false, X.commonV a0 a1 b0 b1 x0 y0 x1 y0 = false, X.commonV a0 a1 b0 b1 x0 y0 x1 y0 = false, X.commonV a0 a1 b0 b1 x0 y0 x1 y0 = false, X.commonV a0 a1 b0 b1 x0 y0 x1 y0 = false, X.commonV a0 a1 b0 b1 x0 y0 x1 y0 = false, CallSpec Try.prog 91 [(a2 a0 a1), (a2 b0 b1), (a2 x1 y0), (a2 x1 y1)] [] (.mk (.bool (X.commonV a0 a1 b0 b1 x1 y0 x1 y1)) [] []), X.commonV a0 a1 b0 b1 x0 y0 x1 y0 = false, X.commonV a0 a1 b0 b1 x1 y0 x1 y1 = true, X.commonV a0 a1 b0 b1 x1 y0 x1 y1 = true, X.commonV a0 a1 b0 b1 x1 y0 x1 y1 = true, X.commonV a0 a1 b0 b1 x1 y0 x1 y1 = true, X.commonV a0 a1 b0 b1 x1 y0 x1 y1 = true, X.commonV a0 a1 b0 b1 x1 y0 x1 y1 = true]) := by kernel_rfl
theorem rtouch_ok_pfffft : go (exec (Try.prog) (8) (81) ([pV a0 a1, pV b0 b1, pV x0 x1, pV y0 y1]) ([])) [(109, .call (.mk (.bool (X.inV a0 a1 x0 x1 y0 y1)) [] [])), (3, .dec false), (2, .dec false), (2, .dec false), (2, .dec false), (0, .call (.mk (.bool (X.inV b0 b1 x0 x1 y0 y1)) [] [])), (2, .dec false), (2, .dec false), (2, .dec false), (2, .dec false), (2, .dec false), (2, .dec false), (0, .call (.mk (.bool (X.commonV a0 a1 b0 b1 x0 y0 x1 y0)) [] [])), (2, .dec false), (2, .dec false), (2, .dec false), (2, .dec false), (2, .dec false), (2, .dec false), (0, .call (.mk (.bool (X.commonV a0 a1 b0 b1 x1 y0 x1 y1)) [] [])), (2, .dec false), (2, .dec false), (2, .dec false), (2, .dec false), (2, .dec false), (2, .dec false), (0, .call (.mk (.bool (X.commonV a0 a1 b0 b1 x1 y1 x0 y1)) [] [])), (2, .dec false), (2, .dec true), (0, .dec true), (0, .dec true), (0, .dec true), (0, .dec true), (0, .dec true)] = some (.mk (.bool true) [] [], true, [CallSpec Try.prog 94 [(a2 a0 a1), (a2 x0 x1), (a2 y0 y1)] [] (.mk (.bool (X.inV a0 a1 x0 x1 y0 y1)) [] []), X.inV a0 a1 x0 x1 y0 y1 = false, X.inV a0 a1 x0 x1 y0 y1 = false, X.inV a0 a1 x0 x1 y0 y1 = false, X.inV a0 a1 x0 x1 y0 y1 = false, CallSpec Try.prog 94 [(a2 b0 b1), (a2 x0 x1), (a2 y0 y1)] [] (.mk (.bool (X.inV b0 b1 x0 x1 y0 y1)) [] []), X.inV a0 a1 x0 x1 y0 y1 = false, X.inV b0 b1 x0 x1 y0 y1 = false, X.inV b0 b1 x0 x1 y0 y1 = false, X.inV b0 b1 x0 x1 y0 y1 = false, X.inV b0 b1 x0 x1 y0 y1 = false, X.inV b0 b1 x0 x1 y0 y1 = false, CallSpec Try.prog 91 [(a2 a0 a1), (a2 b0 b1), (a2 x0 y0), (a2 x1 y0)] [] (.mk (.bool (X.commonV a0 a1 b0 b1 x0 y0 x1 y0)) [] []), X.inV b0 b1 x0 x1 y0 y1 = false, X.commonV a0 a1 b0 b1 x0 y0 x1 y0 = false, X.commonV a0 a1 b0 b1 x0 y0 x1 y0 = false, X.commonV a0 a1 b0 b1 x0 y0 x1 y0 = false, X.commonV a0 a1 b0 b1 x0 y0 x1 y0 = false, X.commonV a0 a1 b0 b1 x0 y0 x1 y0 = false, CallSpec Try.prog 91 [(a2 a0 a1), (a2 b0 b1), (a2 x1 y0), (a2 x1 y1)] [] (.mk (.bool (X.commonV a0 a1 b0 b1 x1 y0 x1 y1)) [] []), X.commonV a0 a1 b0 b1 x0 y0 x1 y0 = false, X.commonV a0 a1 b0 b1 x1 y0 x1 y1 = false, X.commonV a0 a1 b0 b1 x1 y0 x1 y1 = false, X.commonV a0 a1 b0 b1 x1 y0 x1 y1 = false, X.commonV a0 a1 b0 b1 x1 y0 x1 y1 = false, X.commonV a0 a1 b0 b1 x1 y0 x1 y1 = false, CallSpec Try.prog 91 [(a2 a0 a1), (a2 b0 b1), (a2 x1 y1), (a2 x0 y1)] [] (.mk (.bool (X.commonV a0 a1 b0 b1 x1 y1 x0 y1)) [] []), X.commonV a0 a1 b0 b1 x1 y0 x1 y1 = false, X.commonV a0 a1 b0 b1 x1 y1 x0 y1 = true, X.commonV a0 a1 b0 b1 x1 y1 x0 y1 = true, X.commonV a0 a1 b0 b1 x1 y1 x0 y1 = true, X.commonV a0 a1 b0 b1 x1 y1 x0 y1 = true, X.commonV a0 a1 b0 b1 x1 y1 x0 y1 = true, X.commonV a0 a1 b0 b1 x1 y1 x0 y1 = true]) := by kernel_rfl
theorem rtouch_ok_pfffff : go (exec (Try.prog) (8) (81) ([pV a0 a1, pV b0 b1, pV x0 x1, pV y0 y1]) ([])) [(109, .call (.mk (.bool (X.inV a0 a1 x0 x1 y0 y1)) [] [])), (3, .dec false), (2, .dec false), (2, .dec false), (2, .dec false), (0, .call (.mk (.bool (X.inV b0 b1 x0 x1 y0 y1)) [] [])), (2, .dec false), (2, .dec false), (2, .dec false), (2, .dec false), (2, .dec false), (2, .dec false), (0, .call (.mk (.bool (X.commonV a0 a1 b0 b1 x0 y0 x1 y0)) [] [])), (2, .dec false), (2, .dec false), (2, .dec false), (2, .dec false), (2, .dec false), (2, .dec false), (0, .call (.mk (.bool (X.commonV a0 a1 b0 b1 x1 y0 x1 y1)) [] [])), (2, .dec false), (2, .dec false), (2, .dec false), (2, .dec false), (2, .dec false), (2, .dec false), (0, .call (.mk (.bool (X.commonV a0 a1 b0 b1 x1 y1 x0 y1)) [] [])), (2, .dec false), (2, .dec false), (2, .dec false), (2, .dec false), (2, .dec false), (2, .dec false), (0, .call (.mk (.bool (X.commonV a0 a1 b0 b1 x0 y1 x0 y0)) [] [])), (2, .dec false)] = some (.mk (.bool (X.commonV a0 a1 b0 b1 x0 y1 x0 y0)) [] [], true, [CallSpec Try.prog 94 [(a2 a0 a1), (a2 x0 x1), (a2 y0 y1)] [] (.mk (.bool (X.inV a0 a1 x0 x1 y0 y1)) [] []), X.inV a0 a1 x0 x1 y0 y1 = false, X.inV a0 a1 x0 x1 y0 y1 = false, X.inV a0 a1 x0 x1 y0 y1 = false, X.inV a0 a1 x0 x1 y0 y1 = false, CallSpec Try.prog 94 [(a2 b0 b1), (a2 x0 x1), (a2 y0 y1)] [] (.mk (.bool (X.inV b0 b1 x0 x1 y0 y1)) [] []), X.inV a0 a1 x0 x1 y0 y1 = false, X.inV b0 b1 x0 x1 y0 y1 = false, X.inV b0 b1 x0 x1 y0 y1 = false, X.inV b0 b1 x0 x1 y0 y1 = false, X.inV b0 b1 x0 x1 y0 y1 = false, X.inV b0 b1 x0 x1 y0 y1 = false, CallSpec Try.prog 91 [(a2 a0 a1), (a2 b0 b1), (a2 x0 y0), (a2 x1 y0)] [] (.mk (.bool (X.commonV a0 a1 b0 b1 x0 y0 x1 y0)) [] []), X.inV b0 b1 x0 x1 y0 y1 = false, X.commonV a0 a1 b0 b1 x0 y0 x1 y0 = false, X.commonV a0 a1 b0 b1 x0 y0 x1 y0 = false, X.commonV a0 a1 b0 b1 x0 y0 x1 y0 = false, X.commonV a0 a1 b0 b1 x0 y0 x1 y0 = false, X.commonV a0 a1 b0 b1 x0 y0 x1 y0 = false, CallSpec Try.prog 91 [(a2 a0 a1), (a2 b0 b1), (a2 x1 y0), (a2 x1 y1)] [] (.mk (.bool (X.commonV a0 a1 b0 b1 x1 y0 x1 y1)) [] []), X.commonV a0 a1 b0 b1 x0 y0 x1 y0 = false, X.commonV a0 a1 b0 b1 x1 y0 x1 y1 = false, X.commonV a0 a1 b0 b1 x1 y0 x1 y1 = false, X.commonV a0 a1 b0 b1 x1 y0 x1 y1 = false, X.commonV a0 a1 b0 b1 x1 y0 x1 y1 = false, X.commonV a0 a1 b0 b1 x1 y0 x1 y1 = false, CallSpec Try.prog 91 [(a2 a0 a1), (a2 b0 b1), (a2 x1 y1), (a2 x0 y1)] [] (.mk (.bool (X.commonV a0 a1 b0 b1 x1 y1 x0 y1)) [] []), X.commonV a0 a1 b0 b1 x1 y0 x1 y1 = false, X.commonV a0 a1 b0 b1 x1 y1 x0 y1 = false, X.commonV a0 a1 b0 b1 x1 y1 x0 y1 = false, X.commonV a0 a1 b0 b1 x1 y1 x0 y1 = false, X.commonV a0 a1 b0 b1 x1 y1 x0 y1 = false, X.commonV a0 a1 b0 b1 x1 y1 x0 y1 = false, CallSpec Try.prog 91 [(a2 a0 a1), (a2 b0 b1), (a2 x0 y1), (a2 x0 y0)] [] (.mk (.bool (X.commonV a0 a1 b0 b1 x0 y1 x0 y0)) [] []), X.commonV a0 a1 b0 b1 x1 y1 x0 y1 = false]) := by kernel_rfl
theorem rtouch_ok (R : Res) (k_pt : (h0 : X.inV a0 a1 x0 x1 y0 y1 = true) → Res.le (.mk (.bool true) [] []) R) (k_pft : (h0 : ¬ (X.inV a0 a1 x0 x1 y0 y1 = true)) → (h1 : X.inV b0 b1 x0 x1 y0 y1 = true) → Res.le (.mk (.bool true) [] []) R) (k_pfft : (h0 : ¬ (X.inV a0 a1 x0 x1 y0 y1 = true)) → (h1 : ¬ (X.inV b0 b1 x0 x1 y0 y1 = true)) → (h2 : X.commonV a0 a1 b0 b1 x0 y0 x1 y0 = true) → Res.le (.mk (.bool true) [] []) R) (k_pffft : (h0 : ¬ (X.inV a0 a1 x0 x1 y0 y1 = true)) → (h1 : ¬ (X.inV b0 b1 x0 x1 y0 y1 = true)) → (h2 : ¬ (X.commonV a0 a1 b0 b1 x0 y0 x1 y0 = true)) → (h3 : X.commonV a0 a1 b0 b1 x1 y0 x1 y1 = true) → Res.le (.mk (.bool true) [] []) R) (k_pfffft : (h0 : ¬ (X.inV a0 a1 x0 x1 y0 y1 = true)) → (h1 : ¬ (X.inV b0 b1 x0 x1 y0 y1 = true)) → (h2 : ¬ (X.commonV a0 a1 b0 b1 x0 y0 x1 y0 = true)) → (h3 : ¬ (X.commonV a0 a1 b0 b1 x1 y0 x1 y1 = true)) → (h4 : X.commonV a0 a1 b0 b1 x1 y1 x0 y1 = true) → Res.le (.mk (.bool true) [] []) R) (k_pfffff : (h0 : ¬ (X.inV a0 a1 x0 x1 y0 y1 = true)) → (h1 : ¬ (X.inV b0 b1 x0 x1 y0 y1 = true)) → (h2 : ¬ (X.commonV a0 a1 b0 b1 x0 y0 x1 y0 = true)) → (h3 : ¬ (X.commonV a0 a1 b0 b1 x1 y0 x1 y1 = true)) → (h4 : ¬ (X.commonV a0 a1 b0 b1 x1 y1 x0 y1 = true)) → Res.le (.mk (.bool (X.commonV a0 a1 b0 b1 x0 y1 x0 y0)) [] []) R) : CallSpec (Try.prog) (81) ([pV a0 a1, pV b0 b1, pV x0 x1, pV y0 y1]) ([]) R := by
  by_cases h0 : X.inV a0 a1 x0 x1 y0 y1 = true
  · exact (CallSpec.id (go_ok (exec_ok tnamed tcalm tmixed _ _ _ _) (rtouch_ok_pt a0 a1 b0 b1 x0 x1 y0 y1 ) (aC ((in_done _ _ _ _ _ _)) (aC (h0) (aC (h0) (aC (h0) (aC (h0) (aC (h0) aN)))))))).le (k_pt h0)
  · by_cases h1 : X.inV b0 b1 x0 x1 y0 y1 = true
    · exact (CallSpec.id (go_ok (exec_ok tnamed tcalm tmixed _ _ _ _) (rtouch_ok_pft a0 a1 b0 b1 x0 x1 y0 y1 ) (aC ((in_done _ _ _ _ _ _)) (aC ((bF h0)) (aC ((bF h0)) (aC ((bF h0)) (aC ((bF h0)) (aC ((in_done _ _ _ _ _ _)) (aC ((bF h0)) (aC (h1) (aC (h1) (aC (h1) (aC (h1) (aC (h1) (aC (h1) aN))))))))))))))).le (k_pft h0 h1)
    · by_cases h2 : X.commonV a0 a1 b0 b1 x0 y0 x1 y0 = true
      · exact (CallSpec.id (go_ok (exec_ok tnamed tcalm tmixed _ _ _ _) (rtouch_ok_pfft a0 a1 b0 b1 x0 x1 y0 y1 ) (aC ((in_done _ _ _ _ _ _)) (aC ((bF h0)) (aC ((bF h0)) (aC ((bF h0)) (aC ((bF h0)) (aC ((in_done _ _ _ _ _ _)) (aC ((bF h0)) (aC ((bF h1)) (aC ((bF h1)) (aC ((bF h1)) (aC ((bF h1)) (aC ((bF h1)) (aC ((common_done _ _ _ _ _ _ _ _)) (aC ((bF h1)) (aC (h2) (aC (h2) (aC (h2) (aC (h2) (aC (h2) (aC (h2) aN)))))))))))))))))))))).le (k_pfft h0 h1 h2)
      · by_cases h3 : X.commonV a0 a1 b0 b1 x1 y0 x1 y1 = true
        · exact (CallSpec.id (go_ok (exec_ok tnamed tcalm tmixed _ _ _ _) (rtouch_ok_pffft a0 a1 b0 b1 x0 x1 y0 y1 ) (aC ((in_done _ _ _ _ _ _)) (aC ((bF h0)) (aC ((bF h0)) (aC ((bF h0)) (aC ((bF h0)) (aC ((in_done _ _ _ _ _ _)) (aC ((bF h0)) (aC ((bF h1)) (aC ((bF h1)) (aC ((bF h1)) (aC ((bF h1)) (aC ((bF h1)) (aC ((common_done _ _ _ _ _ _ _ _)) (aC ((bF h1)) (aC ((bF h2)) (aC ((bF h2)) (aC ((bF h2)) (aC ((bF h2)) (aC ((bF h2)) (aC ((common_done _ _ _ _ _ _ _ _)) (aC ((bF h2)) (aC (h3) (aC (h3) (aC (h3) (aC (h3) (aC (h3) (aC (h3) aN))))))))))))))))))))))))))))).le (k_pffft h0 h1 h2 h3)
        · by_cases h4 : X.commonV a0 a1 b0 b1 x1 y1 x0 y1 = true
          · exact (CallSpec.id (go_ok (exec_ok tnamed tcalm tmixed _ _ _ _) (rtouch_ok_pfffft a0 a1 b0 b1 x0 x1 y0 y1 ) (aC ((in_done _ _ _ _ _ _)) (aC ((bF h0)) (aC ((bF h0)) (aC ((bF h0)) (aC ((bF h0)) (aC ((in_done _ _ _ _ _ _)) (aC ((bF h0)) (aC ((bF h1)) (aC ((bF h1)) (aC ((bF h1)) (aC ((bF h1)) (aC ((bF h1)) (aC ((common_done _ _ _ _ _ _ _ _)) (aC ((bF h1)) (aC ((bF h2)) (aC ((bF h2)) (aC ((bF h2)) (aC ((bF h2)) (aC ((bF h2)) (aC ((common_done _ _ _ _ _ _ _ _)) (aC ((bF h2)) (aC ((bF h3)) (aC ((bF h3)) (aC ((bF h3)) (aC ((bF h3)) (aC ((bF h3)) (aC ((common_done _ _ _ _ _ _ _ _)) (aC ((bF h3)) (aC (h4) (aC (h4) (aC (h4) (aC (h4) (aC (h4) (aC (h4) aN)))))))))))))))))))))))))))))))))))).le (k_pfffft h0 h1 h2 h3 h4)
          · exact (CallSpec.id (go_ok (exec_ok tnamed tcalm tmixed _ _ _ _) (rtouch_ok_pfffff a0 a1 b0 b1 x0 x1 y0 y1 ) (aC ((in_done _ _ _ _ _ _)) (aC ((bF h0)) (aC ((bF h0)) (aC ((bF h0)) (aC ((bF h0)) (aC ((in_done _ _ _ _ _ _)) (aC ((bF h0)) (aC ((bF h1)) (aC ((bF h1)) (aC ((bF h1)) (aC ((bF h1)) (aC ((bF h1)) (aC ((common_done _ _ _ _ _ _ _ _)) (aC ((bF h1)) (aC ((bF h2)) (aC ((bF h2)) (aC ((bF h2)) (aC ((bF h2)) (aC ((bF h2)) (aC ((common_done _ _ _ _ _ _ _ _)) (aC ((bF h2)) (aC ((bF h3)) (aC ((bF h3)) (aC ((bF h3)) (aC ((bF h3)) (aC ((bF h3)) (aC ((common_done _ _ _ _ _ _ _ _)) (aC ((bF h3)) (aC ((bF h4)) (aC ((bF h4)) (aC ((bF h4)) (aC ((bF h4)) (aC ((bF h4)) (aC ((common_done _ _ _ _ _ _ _ _)) (aC ((bF h4)) aN))))))))))))))))))))))))))))))))))))).le (k_pfffff h0 h1 h2 h3 h4)
end
end Go.Proofs.Ytjalkjeldlchoaa.Ex
end
section
set_option linter.unusedSectionVars false
set_option linter.unusedSimpArgs false
set_option linter.unusedVariables false
namespace Go.Proofs.Ytjalkjeldlchoaa.Ex
open Go Go.RowKit Go.Proofs.Ytjalkjeldlchoaa.X
set_option linter.unusedVariables false
theorem rtouch_done (a0 a1 b0 b1 x0 x1 y0 y1 : Int) : CallSpec Try.prog 81 [pV a0 a1, pV b0 b1, pV x0 x1, pV y0 y1] [] ⟨.bool (touchR a0 a1 b0 b1 x0 x1 y0 y1), [], []⟩ := by
  have e : ∀ {b : Bool}, ¬ (b = true) → b = false := fun h => Bool.eq_false_iff.2 h
  refine rtouch_ok _ _ _ _ _ _ _ _ _ (fun h => res_b ?_) (fun h g => res_b ?_) (fun h g k => res_b ?_) (fun h g k l => res_b ?_) (fun h g k l p => res_b ?_) (fun h g k l p => res_b ?_)
  all_goals unfold touchR
  · rw [h]; rfl
  · rw [e h, g]; rfl
  · rw [e h, e g, k]; rfl
  · rw [e h, e g, e k, l]; rfl
  · rw [e h, e g, e k, e l, p]; rfl
  · rw [e h, e g, e k, e l, e p]; rfl
end Go.Proofs.Ytjalkjeldlchoaa.Ex
end
section
set_option linter.unusedSectionVars false
set_option linter.unusedSimpArgs false
set_option linter.unusedVariables false
namespace Go.Proofs.Ytjalkjeldlchoaa.Ex
open Go
set_option linter.unusedVariables false
noncomputable def rw_l : Code := loopAt Try.prog 54 0
theorem rw_l_calm : calmC rw_l = true := loopAt_calm tcalm 54 0
noncomputable def rw_lC : Code := .loop rw_l
def frRw (n c : Nat) (i : Int) : Fr := frOf 59 [(0, slB 0 n c), (4, at_ 1 0), (5, at_ 2 0), (7, .int .i64 i)]
def frRwR : Fr := frOf 59 [(6, .bool false)]
def keepRw : Xt → List Nat
  | .ret => [6]
  | _ => [0, 4, 5, 7]
def hpRw (cs : List Value) (x0 x1 y0 y1 : Int) : Hp := [.ro 39 cs, .own 32 [.int .i64 x0, .int .i64 x1], .own 32 [.int .i64 y0, .int .i64 y1]]
section
variable (n c : Nat) (cs : List Value) (i px py qx qy x0 x1 y0 y1 : Int) (hi : 0 ≤ i ∧ i ≤ (↑n : Int)) (hn : n ≤ 64) (hl : List.length cs = n * 2) (hm : i < (↑n : Int) → 0 ≤ (i + 1) % (↑n : Int) ∧ (i + 1) % (↑n : Int) < (↑n : Int)) (hA : i < (↑n : Int) → ptAt cs i px py) (hB : i < (↑n : Int) → ptAt cs ((i + 1) % (↑n : Int)) qx qy)
include n c cs i px py qx qy x0 x1 y0 y1 hi hn hl hm hA hB
theorem rw_round_ptt : go (body (Try.prog) (8) (1) (8) (keepRw) (rw_l) (frRw n c i) (hpRw cs x0 x1 y0 y1)) [(5, .dec true), (2, Itm.must), (1, Itm.must), (0, Itm.val ((a2 px py))), (2, Itm.val (.int .i64 (i + 1))), (2, Itm.must), (0, Itm.val (.int .i64 ((i + 1) % (↑n : Int)))), (0, Itm.must), (1, Itm.must), (0, Itm.val ((a2 qx qy))), (4, .call (.mk (.bool (X.touchR px py qx qy x0 x1 y0 y1)) [] [])), (3, .dec true)] = some (Out.mk Xt.ret (frOf 59 [(6, .bool false)]) [.ro 39 cs] [], true, [decide (i < (↑n : Int)) = true, inside i n = true, decide (0 + Int.toNat i * 2 + 2 ≤ List.length cs) = true, Value.agg (List.toArray (List.take 2 (List.drop (0 + Int.toNat i * 2) cs))) = (a2 px py), Value.int .i64 (IntKind.wrap .i64 (i + 1)) = .int .i64 (i + 1), (true && decide ((↑n : Int) ≠ 0)) = true, Value.int .i64 (Int.tmod (i + 1) (↑n : Int)) = .int .i64 ((i + 1) % (↑n : Int)), inside ((i + 1) % (↑n : Int)) n = true, decide (0 + Int.toNat ((i + 1) % (↑n : Int)) * 2 + 2 ≤ List.length cs) = true, Value.agg (List.toArray (List.take 2 (List.drop (0 + Int.toNat ((i + 1) % (↑n : Int)) * 2) cs))) = (a2 qx qy), CallSpec Try.prog 81 [(a2 px py), (a2 qx qy), (a2 x0 x1), (a2 y0 y1)] [] (.mk (.bool (X.touchR px py qx qy x0 x1 y0 y1)) [] []), X.touchR px py qx qy x0 x1 y0 y1 = true]) := by kernel_rfl
theorem rw_round_ptf : go (body (Try.prog) (8) (1) (8) (keepRw) (rw_l) (frRw n c i) (hpRw cs x0 x1 y0 y1)) [(5, .dec true), (2, Itm.must), (1, Itm.must), (0, Itm.val ((a2 px py))), (2, Itm.val (.int .i64 (i + 1))), (2, Itm.must), (0, Itm.val (.int .i64 ((i + 1) % (↑n : Int)))), (0, Itm.must), (1, Itm.must), (0, Itm.val ((a2 qx qy))), (4, .call (.mk (.bool (X.touchR px py qx qy x0 x1 y0 y1)) [] [])), (3, .dec false), (1, Itm.val (.int .i64 (i + 1)))] = some (Out.mk Xt.normal (frOf 59 [(0, (sB 0 n c)), (4, (pA 1)), (5, (pA 2)), (7, .int .i64 (i + 1))]) [.ro 39 cs, .own 32 [.int .i64 x0, .int .i64 x1], .own 32 [.int .i64 y0, .int .i64 y1]] [], true, [decide (i < (↑n : Int)) = true, inside i n = true, decide (0 + Int.toNat i * 2 + 2 ≤ List.length cs) = true, Value.agg (List.toArray (List.take 2 (List.drop (0 + Int.toNat i * 2) cs))) = (a2 px py), Value.int .i64 (IntKind.wrap .i64 (i + 1)) = .int .i64 (i + 1), (true && decide ((↑n : Int) ≠ 0)) = true, Value.int .i64 (Int.tmod (i + 1) (↑n : Int)) = .int .i64 ((i + 1) % (↑n : Int)), inside ((i + 1) % (↑n : Int)) n = true, decide (0 + Int.toNat ((i + 1) % (↑n : Int)) * 2 + 2 ≤ List.length cs) = true, Value.agg (List.toArray (List.take 2 (List.drop (0 + Int.toNat ((i + 1) % (↑n : Int)) * 2) cs))) = (a2 qx qy), CallSpec Try.prog 81 [(a2 px py), (a2 qx qy), (a2 x0 x1), (a2 y0 y1)] [] (.mk (.bool (X.touchR px py qx qy x0 x1 y0 y1)) [] []), X.touchR px py qx qy x0 x1 y0 y1 = false, Value.int .i64 (IntKind.wrap .i64 (i + 1)) = .int .i64 (i + 1)]) := by kernel_rfl
theorem rw_round_pf : go (body (Try.prog) (8) (1) (8) (keepRw) (rw_l) (frRw n c i) (hpRw cs x0 x1 y0 y1)) [(5, .dec false)] = some (Out.mk (Xt.exit 0) (frOf 59 [(0, (sB 0 n c)), (4, (pA 1)), (5, (pA 2)), (7, .int .i64 i)]) [.ro 39 cs, .own 32 [.int .i64 x0, .int .i64 x1], .own 32 [.int .i64 y0, .int .i64 y1]] [], true, [decide (i < (↑n : Int)) = false]) := by kernel_rfl
theorem rw_round (R : Out) (k_ptt : (h0 : i < (↑n : Int)) → (h1 : X.touchR px py qx qy x0 x1 y0 y1 = true) → Out.le (Out.mk Xt.ret (frOf 59 [(6, .bool false)]) [.ro 39 cs] []) R) (k_ptf : (h0 : i < (↑n : Int)) → (h1 : ¬ (X.touchR px py qx qy x0 x1 y0 y1 = true)) → Out.le (Out.mk Xt.normal (frOf 59 [(0, (sB 0 n c)), (4, (pA 1)), (5, (pA 2)), (7, .int .i64 (i + 1))]) [.ro 39 cs, .own 32 [.int .i64 x0, .int .i64 x1], .own 32 [.int .i64 y0, .int .i64 y1]] []) R) (k_pf : (h0 : ¬ (i < (↑n : Int))) → Out.le (Out.mk (Xt.exit 0) (frOf 59 [(0, (sB 0 n c)), (4, (pA 1)), (5, (pA 2)), (7, .int .i64 i)]) [.ro 39 cs, .own 32 [.int .i64 x0, .int .i64 x1], .own 32 [.int .i64 y0, .int .i64 y1]] []) R) : CodeSpec (Try.prog) (1) (rw_l) (frRw n c i) (hpRw cs x0 x1 y0 y1) R := by
  by_cases h0 : i < (↑n : Int)
  · by_cases h1 : X.touchR px py qx qy x0 x1 y0 y1 = true
    · exact (CodeSpec.id (go_ok (body_ok tnamed tcalm tmixed _ _ _ _ _ _ rw_l_calm) (rw_round_ptt n c cs i px py qx qy x0 x1 y0 y1 hi hn hl hm hA hB ) (aC (dT h0) (aC (inside_of (by omega)) (aC dO (aC ((hA (by omega))) (aC (congrArg (Value.int _) (Go.IntWalk.i64_in _ (by omega))) (aC ((by simp [ByteArray.size_append, ByteArray.size_extract, sz_mk] <;> omega)) (aC (congrArg (Value.int _) (Int.tmod_eq_emod_of_nonneg (by omega))) (aC (inside_of (by omega)) (aC dO (aC ((hB (by omega))) (aC ((rtouch_done _ _ _ _ _ _ _ _)) (aC (h1) aN)))))))))))))).le (k_ptt h0 h1)
    · exact (CodeSpec.id (go_ok (body_ok tnamed tcalm tmixed _ _ _ _ _ _ rw_l_calm) (rw_round_ptf n c cs i px py qx qy x0 x1 y0 y1 hi hn hl hm hA hB ) (aC (dT h0) (aC (inside_of (by omega)) (aC dO (aC ((hA (by omega))) (aC (congrArg (Value.int _) (Go.IntWalk.i64_in _ (by omega))) (aC ((by simp [ByteArray.size_append, ByteArray.size_extract, sz_mk] <;> omega)) (aC (congrArg (Value.int _) (Int.tmod_eq_emod_of_nonneg (by omega))) (aC (inside_of (by omega)) (aC dO (aC ((hB (by omega))) (aC ((rtouch_done _ _ _ _ _ _ _ _)) (aC ((bF h1)) (aC (congrArg (Value.int _) (Go.IntWalk.i64_in _ (by omega))) aN))))))))))))))).le (k_ptf h0 h1)
  · exact (CodeSpec.id (go_ok (body_ok tnamed tcalm tmixed _ _ _ _ _ _ rw_l_calm) (rw_round_pf n c cs i px py qx qy x0 x1 y0 y1 hi hn hl hm hA hB ) (aC (dF h0) aN))).le (k_pf h0)
end
section
variable (n c : Nat) (cs : List Value) (x0 x1 y0 y1 : Int) (hn : 1 ≤ n ∧ n ≤ 64) (hL : CodeSpec Try.prog 1 rw_lC (frRw n c 0) (hpRw cs x0 x1 y0 y1) (Out.mk Xt.ret frRwR [.ro 39 cs] []))
include n c cs x0 x1 y0 y1 hn hL
theorem rw_T_pt : go (exec (Try.prog) (8) (54) ([slB 0 n c, pV x0 x1, pV y0 y1]) ([.ro 39 cs])) [(13, .call (.mk (.bool (X.inQ x0)) [] [])), (4, .dec true), (0, .dec true), (0, .dec true), (0, .dec true), (0, .dec true)] = some (.mk (.bool false) [.ro 39 cs] [], true, [CallSpec Try.prog 48 [.int .i64 x0] [] (.mk (.bool (X.inQ x0)) [] []), (!X.inQ x0) = true, (!X.inQ x0) = true, (!X.inQ x0) = true, (!X.inQ x0) = true, (!X.inQ x0) = true]) := by kernel_rfl
theorem rw_T_pft : go (exec (Try.prog) (8) (54) ([slB 0 n c, pV x0 x1, pV y0 y1]) ([.ro 39 cs])) [(13, .call (.mk (.bool (X.inQ x0)) [] [])), (4, .dec false), (1, .dec false), (3, .dec false), (0, .call (.mk (.bool (X.inQ x1)) [] [])), (2, .dec false), (1, .dec false), (2, .dec true), (0, .dec true), (0, .dec true), (0, .dec true), (0, .dec true)] = some (.mk (.bool false) [.ro 39 cs] [], true, [CallSpec Try.prog 48 [.int .i64 x0] [] (.mk (.bool (X.inQ x0)) [] []), (!X.inQ x0) = false, (!X.inQ x0) = false, (!X.inQ x0) = false, CallSpec Try.prog 48 [.int .i64 x1] [] (.mk (.bool (X.inQ x1)) [] []), (!X.inQ x0) = false, (!X.inQ x0) = false, (!X.inQ x1) = true, (!X.inQ x1) = true, (!X.inQ x1) = true, (!X.inQ x1) = true, (!X.inQ x1) = true]) := by kernel_rfl
theorem rw_T_pfft : go (exec (Try.prog) (8) (54) ([slB 0 n c, pV x0 x1, pV y0 y1]) ([.ro 39 cs])) [(13, .call (.mk (.bool (X.inQ x0)) [] [])), (4, .dec false), (1, .dec false), (3, .dec false), (0, .call (.mk (.bool (X.inQ x1)) [] [])), (2, .dec false), (1, .dec false), (2, .dec false), (1, .dec false), (3, .dec false), (0, .call (.mk (.bool (X.inQ y0)) [] [])), (2, .dec false), (1, .dec false), (2, .dec true), (0, .dec true), (0, .dec true), (0, .dec true), (0, .dec true)] = some (.mk (.bool false) [.ro 39 cs] [], true, [CallSpec Try.prog 48 [.int .i64 x0] [] (.mk (.bool (X.inQ x0)) [] []), (!X.inQ x0) = false, (!X.inQ x0) = false, (!X.inQ x0) = false, CallSpec Try.prog 48 [.int .i64 x1] [] (.mk (.bool (X.inQ x1)) [] []), (!X.inQ x0) = false, (!X.inQ x0) = false, (!X.inQ x1) = false, (!X.inQ x1) = false, (!X.inQ x1) = false, CallSpec Try.prog 48 [.int .i64 y0] [] (.mk (.bool (X.inQ y0)) [] []), (!X.inQ x1) = false, (!X.inQ x1) = false, (!X.inQ y0) = true, (!X.inQ y0) = true, (!X.inQ y0) = true, (!X.inQ y0) = true, (!X.inQ y0) = true]) := by kernel_rfl
theorem rw_T_pffft : go (exec (Try.prog) (8) (54) ([slB 0 n c, pV x0 x1, pV y0 y1]) ([.ro 39 cs])) [(13, .call (.mk (.bool (X.inQ x0)) [] [])), (4, .dec false), (1, .dec false), (3, .dec false), (0, .call (.mk (.bool (X.inQ x1)) [] [])), (2, .dec false), (1, .dec false), (2, .dec false), (1, .dec false), (3, .dec false), (0, .call (.mk (.bool (X.inQ y0)) [] [])), (2, .dec false), (1, .dec false), (2, .dec false), (1, .dec false), (3, .dec false), (0, .call (.mk (.bool (X.inQ y1)) [] [])), (2, .dec false), (1, .dec false), (2, .dec true)] = some (.mk (.bool false) [.ro 39 cs] [], true, [CallSpec Try.prog 48 [.int .i64 x0] [] (.mk (.bool (X.inQ x0)) [] []), (!X.inQ x0) = false, (!X.inQ x0) = false, (!X.inQ x0) = false, CallSpec Try.prog 48 [.int .i64 x1] [] (.mk (.bool (X.inQ x1)) [] []), (!X.inQ x0) = false, (!X.inQ x0) = false, (!X.inQ x1) = false, (!X.inQ x1) = false, (!X.inQ x1) = false, CallSpec Try.prog 48 [.int .i64 y0] [] (.mk (.bool (X.inQ y0)) [] []), (!X.inQ x1) = false, (!X.inQ x1) = false, (!X.inQ y0) = false, (!X.inQ y0) = false, (!X.inQ y0) = false, CallSpec Try.prog 48 [.int .i64 y1] [] (.mk (.bool (X.inQ y1)) [] []), (!X.inQ y0) = false, (!X.inQ y0) = false, (!X.inQ y1) = true]) := by kernel_rfl
theorem rw_T_pffff : go (exec (Try.prog) (8) (54) ([slB 0 n c, pV x0 x1, pV y0 y1]) ([.ro 39 cs])) [(13, .call (.mk (.bool (X.inQ x0)) [] [])), (4, .dec false), (1, .dec false), (3, .dec false), (0, .call (.mk (.bool (X.inQ x1)) [] [])), (2, .dec false), (1, .dec false), (2, .dec false), (1, .dec false), (3, .dec false), (0, .call (.mk (.bool (X.inQ y0)) [] [])), (2, .dec false), (1, .dec false), (2, .dec false), (1, .dec false), (3, .dec false), (0, .call (.mk (.bool (X.inQ y1)) [] [])), (2, .dec false), (1, .dec false), (2, .dec false), (2, Itm.loop [0, 4, 5, 7] (Out.mk Xt.ret (frOf 59 [(6, .bool false)]) [.ro 39 cs] []))] = some (.mk (.bool false) [.ro 39 cs] [], true, [CallSpec Try.prog 48 [.int .i64 x0] [] (.mk (.bool (X.inQ x0)) [] []), (!X.inQ x0) = false, (!X.inQ x0) = false, (!X.inQ x0) = false, CallSpec Try.prog 48 [.int .i64 x1] [] (.mk (.bool (X.inQ x1)) [] []), (!X.inQ x0) = false, (!X.inQ x0) = false, (!X.inQ x1) = false, (!X.inQ x1) = false, (!X.inQ x1) = false, CallSpec Try.prog 48 [.int .i64 y0] [] (.mk (.bool (X.inQ y0)) [] []), (!X.inQ x1) = false, (!X.inQ x1) = false, (!X.inQ y0) = false, (!X.inQ y0) = false, (!X.inQ y0) = false, CallSpec Try.prog 48 [.int .i64 y1] [] (.mk (.bool (X.inQ y1)) [] []), (!X.inQ y0) = false, (!X.inQ y0) = false, (!X.inQ y1) = false, type_of% hL]) := by kernel_rfl
theorem rw_T (R : Res) (k_pt : (h0 : (!X.inQ x0) = true) → Res.le (.mk (.bool false) [.ro 39 cs] []) R) (k_pft : (h0 : ¬ ((!X.inQ x0) = true)) → (h1 : (!X.inQ x1) = true) → Res.le (.mk (.bool false) [.ro 39 cs] []) R) (k_pfft : (h0 : ¬ ((!X.inQ x0) = true)) → (h1 : ¬ ((!X.inQ x1) = true)) → (h2 : (!X.inQ y0) = true) → Res.le (.mk (.bool false) [.ro 39 cs] []) R) (k_pffft : (h0 : ¬ ((!X.inQ x0) = true)) → (h1 : ¬ ((!X.inQ x1) = true)) → (h2 : ¬ ((!X.inQ y0) = true)) → (h3 : (!X.inQ y1) = true) → Res.le (.mk (.bool false) [.ro 39 cs] []) R) (k_pffff : (h0 : ¬ ((!X.inQ x0) = true)) → (h1 : ¬ ((!X.inQ x1) = true)) → (h2 : ¬ ((!X.inQ y0) = true)) → (h3 : ¬ ((!X.inQ y1) = true)) → Res.le (.mk (.bool false) [.ro 39 cs] []) R) : CallSpec (Try.prog) (54) ([slB 0 n c, pV x0 x1, pV y0 y1]) ([.ro 39 cs]) R := by
  by_cases h0 : (!X.inQ x0) = true
  · exact (CallSpec.id (go_ok (exec_ok tnamed tcalm tmixed _ _ _ _) (rw_T_pt n c cs x0 x1 y0 y1 hn hL ) (aC ((rmay_done _)) (aC (h0) (aC (h0) (aC (h0) (aC (h0) (aC (h0) aN)))))))).le (k_pt h0)
  · by_cases h1 : (!X.inQ x1) = true
    · exact (CallSpec.id (go_ok (exec_ok tnamed tcalm tmixed _ _ _ _) (rw_T_pft n c cs x0 x1 y0 y1 hn hL ) (aC ((rmay_done _)) (aC ((bF h0)) (aC ((bF h0)) (aC ((bF h0)) (aC ((rmay_done _)) (aC ((bF h0)) (aC ((bF h0)) (aC (h1) (aC (h1) (aC (h1) (aC (h1) (aC (h1) aN)))))))))))))).le (k_pft h0 h1)
    · by_cases h2 : (!X.inQ y0) = true
      · exact (CallSpec.id (go_ok (exec_ok tnamed tcalm tmixed _ _ _ _) (rw_T_pfft n c cs x0 x1 y0 y1 hn hL ) (aC ((rmay_done _)) (aC ((bF h0)) (aC ((bF h0)) (aC ((bF h0)) (aC ((rmay_done _)) (aC ((bF h0)) (aC ((bF h0)) (aC ((bF h1)) (aC ((bF h1)) (aC ((bF h1)) (aC ((rmay_done _)) (aC ((bF h1)) (aC ((bF h1)) (aC (h2) (aC (h2) (aC (h2) (aC (h2) (aC (h2) aN)))))))))))))))))))).le (k_pfft h0 h1 h2)
      · by_cases h3 : (!X.inQ y1) = true
        · exact (CallSpec.id (go_ok (exec_ok tnamed tcalm tmixed _ _ _ _) (rw_T_pffft n c cs x0 x1 y0 y1 hn hL ) (aC ((rmay_done _)) (aC ((bF h0)) (aC ((bF h0)) (aC ((bF h0)) (aC ((rmay_done _)) (aC ((bF h0)) (aC ((bF h0)) (aC ((bF h1)) (aC ((bF h1)) (aC ((bF h1)) (aC ((rmay_done _)) (aC ((bF h1)) (aC ((bF h1)) (aC ((bF h2)) (aC ((bF h2)) (aC ((bF h2)) (aC ((rmay_done _)) (aC ((bF h2)) (aC ((bF h2)) (aC (h3) aN)))))))))))))))))))))).le (k_pffft h0 h1 h2 h3)
        · exact (CallSpec.id (go_ok (exec_ok tnamed tcalm tmixed _ _ _ _) (rw_T_pffff n c cs x0 x1 y0 y1 hn hL ) (aC ((rmay_done _)) (aC ((bF h0)) (aC ((bF h0)) (aC ((bF h0)) (aC ((rmay_done _)) (aC ((bF h0)) (aC ((bF h0)) (aC ((bF h1)) (aC ((bF h1)) (aC ((bF h1)) (aC ((rmay_done _)) (aC ((bF h1)) (aC ((bF h1)) (aC ((bF h2)) (aC ((bF h2)) (aC ((bF h2)) (aC ((rmay_done _)) (aC ((bF h2)) (aC ((bF h2)) (aC ((bF h3)) (aC (hL) aN))))))))))))))))))))))).le (k_pffff h0 h1 h2 h3)
end
section
variable (n c : Nat) (cs : List Value) (x0 x1 y0 y1 s : Int) (hn : 1 ≤ n ∧ n ≤ 64) (hL : CodeSpec Try.prog 1 rw_lC (frRw n c 0) (hpRw cs x0 x1 y0 y1) (Out.mk (Xt.exit 0) (frRw n c (↑n : Int)) (hpRw cs x0 x1 y0 y1) [])) (kS : X.inQ x0 = true → X.inQ y0 = true → CallSpec Try.prog 50 [slB 0 n c, (a2 x0 y0)] [.ro 39 cs] (.mk (.int .i64 s) [.ro 39 cs] []))
include n c cs x0 x1 y0 y1 s hn hL kS
theorem rw_E_pt : go (exec (Try.prog) (8) (54) ([slB 0 n c, pV x0 x1, pV y0 y1]) ([.ro 39 cs])) [(13, .call (.mk (.bool (X.inQ x0)) [] [])), (4, .dec true), (0, .dec true), (0, .dec true), (0, .dec true), (0, .dec true)] = some (.mk (.bool false) [.ro 39 cs] [], true, [CallSpec Try.prog 48 [.int .i64 x0] [] (.mk (.bool (X.inQ x0)) [] []), (!X.inQ x0) = true, (!X.inQ x0) = true, (!X.inQ x0) = true, (!X.inQ x0) = true, (!X.inQ x0) = true]) := by kernel_rfl
theorem rw_E_pft : go (exec (Try.prog) (8) (54) ([slB 0 n c, pV x0 x1, pV y0 y1]) ([.ro 39 cs])) [(13, .call (.mk (.bool (X.inQ x0)) [] [])), (4, .dec false), (1, .dec false), (3, .dec false), (0, .call (.mk (.bool (X.inQ x1)) [] [])), (2, .dec false), (1, .dec false), (2, .dec true), (0, .dec true), (0, .dec true), (0, .dec true), (0, .dec true)] = some (.mk (.bool false) [.ro 39 cs] [], true, [CallSpec Try.prog 48 [.int .i64 x0] [] (.mk (.bool (X.inQ x0)) [] []), (!X.inQ x0) = false, (!X.inQ x0) = false, (!X.inQ x0) = false, CallSpec Try.prog 48 [.int .i64 x1] [] (.mk (.bool (X.inQ x1)) [] []), (!X.inQ x0) = false, (!X.inQ x0) = false, (!X.inQ x1) = true, (!X.inQ x1) = true, (!X.inQ x1) = true, (!X.inQ x1) = true, (!X.inQ x1) = true]) := by kernel_rfl
theorem rw_E_pfft : go (exec (Try.prog) (8) (54) ([slB 0 n c, pV x0 x1, pV y0 y1]) ([.ro 39 cs])) [(13, .call (.mk (.bool (X.inQ x0)) [] [])), (4, .dec false), (1, .dec false), (3, .dec false), (0, .call (.mk (.bool (X.inQ x1)) [] [])), (2, .dec false), (1, .dec false), (2, .dec false), (1, .dec false), (3, .dec false), (0, .call (.mk (.bool (X.inQ y0)) [] [])), (2, .dec false), (1, .dec false), (2, .dec true), (0, .dec true), (0, .dec true), (0, .dec true), (0, .dec true)] = some (.mk (.bool false) [.ro 39 cs] [], true, [CallSpec Try.prog 48 [.int .i64 x0] [] (.mk (.bool (X.inQ x0)) [] []), (!X.inQ x0) = false, (!X.inQ x0) = false, (!X.inQ x0) = false, CallSpec Try.prog 48 [.int .i64 x1] [] (.mk (.bool (X.inQ x1)) [] []), (!X.inQ x0) = false, (!X.inQ x0) = false, (!X.inQ x1) = false, (!X.inQ x1) = false, (!X.inQ x1) = false, CallSpec Try.prog 48 [.int .i64 y0] [] (.mk (.bool (X.inQ y0)) [] []), (!X.inQ x1) = false, (!X.inQ x1) = false, (!X.inQ y0) = true, (!X.inQ y0) = true, (!X.inQ y0) = true, (!X.inQ y0) = true, (!X.inQ y0) = true]) := by kernel_rfl
theorem rw_E_pffft : go (exec (Try.prog) (8) (54) ([slB 0 n c, pV x0 x1, pV y0 y1]) ([.ro 39 cs])) [(13, .call (.mk (.bool (X.inQ x0)) [] [])), (4, .dec false), (1, .dec false), (3, .dec false), (0, .call (.mk (.bool (X.inQ x1)) [] [])), (2, .dec false), (1, .dec false), (2, .dec false), (1, .dec false), (3, .dec false), (0, .call (.mk (.bool (X.inQ y0)) [] [])), (2, .dec false), (1, .dec false), (2, .dec false), (1, .dec false), (3, .dec false), (0, .call (.mk (.bool (X.inQ y1)) [] [])), (2, .dec false), (1, .dec false), (2, .dec true)] = some (.mk (.bool false) [.ro 39 cs] [], true, [CallSpec Try.prog 48 [.int .i64 x0] [] (.mk (.bool (X.inQ x0)) [] []), (!X.inQ x0) = false, (!X.inQ x0) = false, (!X.inQ x0) = false, CallSpec Try.prog 48 [.int .i64 x1] [] (.mk (.bool (X.inQ x1)) [] []), (!X.inQ x0) = false, (!X.inQ x0) = false, (!X.inQ x1) = false, (!X.inQ x1) = false, (!X.inQ x1) = false, CallSpec Try.prog 48 [.int .i64 y0] [] (.mk (.bool (X.inQ y0)) [] []), (!X.inQ x1) = false, (!X.inQ x1) = false, (!X.inQ y0) = false, (!X.inQ y0) = false, (!X.inQ y0) = false, CallSpec Try.prog 48 [.int .i64 y1] [] (.mk (.bool (X.inQ y1)) [] []), (!X.inQ y0) = false, (!X.inQ y0) = false, (!X.inQ y1) = true]) := by kernel_rfl
theorem rw_E_pffff : go (exec (Try.prog) (8) (54) ([slB 0 n c, pV x0 x1, pV y0 y1]) ([.ro 39 cs])) [(13, .call (.mk (.bool (X.inQ x0)) [] [])), (4, .dec false), (1, .dec false), (3, .dec false), (0, .call (.mk (.bool (X.inQ x1)) [] [])), (2, .dec false), (1, .dec false), (2, .dec false), (1, .dec false), (3, .dec false), (0, .call (.mk (.bool (X.inQ y0)) [] [])), (2, .dec false), (1, .dec false), (2, .dec false), (1, .dec false), (3, .dec false), (0, .call (.mk (.bool (X.inQ y1)) [] [])), (2, .dec false), (1, .dec false), (2, .dec false), (2, Itm.loop [0, 4, 5, 7] (Out.mk (Xt.exit 0) (frOf 59 [(0, (sB 0 n c)), (4, (pA 1)), (5, (pA 2)), (7, .int .i64 (↑n : Int))]) [.ro 39 cs, .own 32 [.int .i64 x0, .int .i64 x1], .own 32 [.int .i64 y0, .int .i64 y1]] [])), (15, .call (.mk (.int .i64 s) [.ro 39 cs] []))] = some (.mk (.bool (decide (s = 1))) [.ro 39 cs] [], true, [CallSpec Try.prog 48 [.int .i64 x0] [] (.mk (.bool (X.inQ x0)) [] []), (!X.inQ x0) = false, (!X.inQ x0) = false, (!X.inQ x0) = false, CallSpec Try.prog 48 [.int .i64 x1] [] (.mk (.bool (X.inQ x1)) [] []), (!X.inQ x0) = false, (!X.inQ x0) = false, (!X.inQ x1) = false, (!X.inQ x1) = false, (!X.inQ x1) = false, CallSpec Try.prog 48 [.int .i64 y0] [] (.mk (.bool (X.inQ y0)) [] []), (!X.inQ x1) = false, (!X.inQ x1) = false, (!X.inQ y0) = false, (!X.inQ y0) = false, (!X.inQ y0) = false, CallSpec Try.prog 48 [.int .i64 y1] [] (.mk (.bool (X.inQ y1)) [] []), (!X.inQ y0) = false, (!X.inQ y0) = false, (!X.inQ y1) = false, type_of% hL, CallSpec Try.prog 50 [(sB 0 n c), (a2 x0 y0)] [.ro 39 cs] (.mk (.int .i64 s) [.ro 39 cs] [])]) := by kernel_rfl
theorem rw_E (R : Res) (k_pt : (h0 : (!X.inQ x0) = true) → Res.le (.mk (.bool false) [.ro 39 cs] []) R) (k_pft : (h0 : ¬ ((!X.inQ x0) = true)) → (h1 : (!X.inQ x1) = true) → Res.le (.mk (.bool false) [.ro 39 cs] []) R) (k_pfft : (h0 : ¬ ((!X.inQ x0) = true)) → (h1 : ¬ ((!X.inQ x1) = true)) → (h2 : (!X.inQ y0) = true) → Res.le (.mk (.bool false) [.ro 39 cs] []) R) (k_pffft : (h0 : ¬ ((!X.inQ x0) = true)) → (h1 : ¬ ((!X.inQ x1) = true)) → (h2 : ¬ ((!X.inQ y0) = true)) → (h3 : (!X.inQ y1) = true) → Res.le (.mk (.bool false) [.ro 39 cs] []) R) (k_pffff : (h0 : ¬ ((!X.inQ x0) = true)) → (h1 : ¬ ((!X.inQ x1) = true)) → (h2 : ¬ ((!X.inQ y0) = true)) → (h3 : ¬ ((!X.inQ y1) = true)) → Res.le (.mk (.bool (decide (s = 1))) [.ro 39 cs] []) R) : CallSpec (Try.prog) (54) ([slB 0 n c, pV x0 x1, pV y0 y1]) ([.ro 39 cs]) R := by
  by_cases h0 : (!X.inQ x0) = true
  · exact (CallSpec.id (go_ok (exec_ok tnamed tcalm tmixed _ _ _ _) (rw_E_pt n c cs x0 x1 y0 y1 s hn hL kS ) (aC ((rmay_done _)) (aC (h0) (aC (h0) (aC (h0) (aC (h0) (aC (h0) aN)))))))).le (k_pt h0)
  · by_cases h1 : (!X.inQ x1) = true
    · exact (CallSpec.id (go_ok (exec_ok tnamed tcalm tmixed _ _ _ _) (rw_E_pft n c cs x0 x1 y0 y1 s hn hL kS ) (aC ((rmay_done _)) (aC ((bF h0)) (aC ((bF h0)) (aC ((bF h0)) (aC ((rmay_done _)) (aC ((bF h0)) (aC ((bF h0)) (aC (h1) (aC (h1) (aC (h1) (aC (h1) (aC (h1) aN)))))))))))))).le (k_pft h0 h1)
    · by_cases h2 : (!X.inQ y0) = true
      · exact (CallSpec.id (go_ok (exec_ok tnamed tcalm tmixed _ _ _ _) (rw_E_pfft n c cs x0 x1 y0 y1 s hn hL kS ) (aC ((rmay_done _)) (aC ((bF h0)) (aC ((bF h0)) (aC ((bF h0)) (aC ((rmay_done _)) (aC ((bF h0)) (aC ((bF h0)) (aC ((bF h1)) (aC ((bF h1)) (aC ((bF h1)) (aC ((rmay_done _)) (aC ((bF h1)) (aC ((bF h1)) (aC (h2) (aC (h2) (aC (h2) (aC (h2) (aC (h2) aN)))))))))))))))))))).le (k_pfft h0 h1 h2)
      · by_cases h3 : (!X.inQ y1) = true
        · exact (CallSpec.id (go_ok (exec_ok tnamed tcalm tmixed _ _ _ _) (rw_E_pffft n c cs x0 x1 y0 y1 s hn hL kS ) (aC ((rmay_done _)) (aC ((bF h0)) (aC ((bF h0)) (aC ((bF h0)) (aC ((rmay_done _)) (aC ((bF h0)) (aC ((bF h0)) (aC ((bF h1)) (aC ((bF h1)) (aC ((bF h1)) (aC ((rmay_done _)) (aC ((bF h1)) (aC ((bF h1)) (aC ((bF h2)) (aC ((bF h2)) (aC ((bF h2)) (aC ((rmay_done _)) (aC ((bF h2)) (aC ((bF h2)) (aC (h3) aN)))))))))))))))))))))).le (k_pffft h0 h1 h2 h3)
        · exact (CallSpec.id (go_ok (exec_ok tnamed tcalm tmixed _ _ _ _) (rw_E_pffff n c cs x0 x1 y0 y1 s hn hL kS ) (aC ((rmay_done _)) (aC ((bF h0)) (aC ((bF h0)) (aC ((bF h0)) (aC ((rmay_done _)) (aC ((bF h0)) (aC ((bF h0)) (aC ((bF h1)) (aC ((bF h1)) (aC ((bF h1)) (aC ((rmay_done _)) (aC ((bF h1)) (aC ((bF h1)) (aC ((bF h2)) (aC ((bF h2)) (aC ((bF h2)) (aC ((rmay_done _)) (aC ((bF h2)) (aC ((bF h2)) (aC ((bF h3)) (aC (hL) (aC ((kS (by simpa using h0) (by simpa using h2))) aN)))))))))))))))))))))))).le (k_pffff h0 h1 h2 h3)
end
section
variable (n c : Nat) (cs : List Value) (l : List X.S23) (a0 a1 b0 b1 r : Int) (ha : -536870912 ≤ a0 ∧ a0 ≤ 536870912 ∧ -536870912 ≤ a1 ∧ a1 ≤ 536870912) (hb : -536870912 ≤ b0 ∧ b0 ≤ 536870912 ∧ -536870912 ≤ b1 ∧ b1 ≤ 536870912) (hr : 0 ≤ r) (kW : ∀ (x0 x1 y0 y1 : Int), x0 ≤ x1 → y0 ≤ y1 → CallSpec Try.prog 54 [slB 0 n c, pV x0 x1, pV y0 y1] [.ro 39 cs] (.mk (.bool (X.withinV l x0 x1 y0 y1)) [.ro 39 cs] []))
include n c cs l a0 a1 b0 b1 r ha hb hr kW
theorem rlane_ok_pt : go (exec (Try.prog) (8) (57) ([slB 0 n c, pV a0 a1, pV b0 b1, .int .i64 r]) ([.ro 39 cs])) [(12, .dec true)] = some (.mk (.bool false) [.ro 39 cs] [], true, [decide (r > 1073741824) = true]) := by kernel_rfl
theorem rlane_ok_pf : go (exec (Try.prog) (8) (57) ([slB 0 n c, pV a0 a1, pV b0 b1, .int .i64 r]) ([.ro 39 cs])) [(12, .dec false), (10, Itm.val (.int .i64 ((if b0 < a0 then b0 else a0) - r))), (10, Itm.val (.int .i64 ((if b0 > a0 then b0 else a0) + r))), (24, Itm.val (.int .i64 ((if b1 < a1 then b1 else a1) - r))), (10, Itm.val (.int .i64 ((if b1 > a1 then b1 else a1) + r))), (19, .call (.mk (.bool (X.withinV l ((if b0 < a0 then b0 else a0) - r) ((if b0 > a0 then b0 else a0) + r) ((if b1 < a1 then b1 else a1) - r) ((if b1 > a1 then b1 else a1) + r))) [.ro 39 cs] []))] = some (.mk (.bool (X.withinV l ((if b0 < a0 then b0 else a0) - r) ((if b0 > a0 then b0 else a0) + r) ((if b1 < a1 then b1 else a1) - r) ((if b1 > a1 then b1 else a1) + r))) [.ro 39 cs] [], true, [decide (r > 1073741824) = false, Value.int .i64 (IntKind.wrap .i64 ((if b0 < a0 then b0 else a0) - r)) = .int .i64 ((if b0 < a0 then b0 else a0) - r), Value.int .i64 (IntKind.wrap .i64 ((if b0 > a0 then b0 else a0) + r)) = .int .i64 ((if b0 > a0 then b0 else a0) + r), Value.int .i64 (IntKind.wrap .i64 ((if b1 < a1 then b1 else a1) - r)) = .int .i64 ((if b1 < a1 then b1 else a1) - r), Value.int .i64 (IntKind.wrap .i64 ((if b1 > a1 then b1 else a1) + r)) = .int .i64 ((if b1 > a1 then b1 else a1) + r), CallSpec Try.prog 54 [(sB 0 n c), .agg #[.int .i64 ((if b0 < a0 then b0 else a0) - r), .int .i64 ((if b0 > a0 then b0 else a0) + r)], .agg #[.int .i64 ((if b1 < a1 then b1 else a1) - r), .int .i64 ((if b1 > a1 then b1 else a1) + r)]] [.ro 39 cs] (.mk (.bool (X.withinV l ((if b0 < a0 then b0 else a0) - r) ((if b0 > a0 then b0 else a0) + r) ((if b1 < a1 then b1 else a1) - r) ((if b1 > a1 then b1 else a1) + r))) [.ro 39 cs] [])]) := by kernel_rfl
theorem rlane_ok (R : Res) (k_pt : (h0 : r > 1073741824) → Res.le (.mk (.bool false) [.ro 39 cs] []) R) (k_pf : (h0 : ¬ (r > 1073741824)) → Res.le (.mk (.bool (X.withinV l ((if b0 < a0 then b0 else a0) - r) ((if b0 > a0 then b0 else a0) + r) ((if b1 < a1 then b1 else a1) - r) ((if b1 > a1 then b1 else a1) + r))) [.ro 39 cs] []) R) : CallSpec (Try.prog) (57) ([slB 0 n c, pV a0 a1, pV b0 b1, .int .i64 r]) ([.ro 39 cs]) R := by
  by_cases h0 : r > 1073741824
  · exact (CallSpec.id (go_ok (exec_ok tnamed tcalm tmixed _ _ _ _) (rlane_ok_pt n c cs l a0 a1 b0 b1 r ha hb hr kW ) (aC (dT h0) aN))).le (k_pt h0)
  · exact (CallSpec.id (go_ok (exec_ok tnamed tcalm tmixed _ _ _ _) (rlane_ok_pf n c cs l a0 a1 b0 b1 r ha hb hr kW ) (aC (dF h0) (aC (congrArg (Value.int _) (Go.IntWalk.i64_in _ (by omega))) (aC (congrArg (Value.int _) (Go.IntWalk.i64_in _ (by omega))) (aC (congrArg (Value.int _) (Go.IntWalk.i64_in _ (by omega))) (aC (congrArg (Value.int _) (Go.IntWalk.i64_in _ (by omega))) (aC ((kW _ _ _ _ (by omega) (by omega))) aN)))))))).le (k_pf h0)
end
end Go.Proofs.Ytjalkjeldlchoaa.Ex
end
section
set_option linter.unusedSectionVars false
set_option linter.unusedSimpArgs false
set_option linter.unusedVariables false
namespace Go.Proofs.Ytjalkjeldlchoaa.X
open Go Go.RowKit Go.Proofs.Ytjalkjeldlchoaa.Ex
set_option linter.unusedVariables false
theorem corner_le {u v p q x0 x1 y0 y1 : Int} (hp : x0 ≤ p ∧ p ≤ x1) (hq : y0 ≤ q ∧ q ≤ y1) : ∃ X Y : Int, (X = x0 ∨ X = x1) ∧ (Y = y0 ∨ Y = y1) ∧ u * Y - v * X ≤ u * q - v * p := by
  have hu : ∃ Y, (Y = y0 ∨ Y = y1) ∧ u * Y ≤ u * q := by
    rcases Int.le_total 0 u with h | h
    · exact ⟨y0, .inl rfl, Int.mul_le_mul_of_nonneg_left hq.1 h⟩
    · exact ⟨y1, .inr rfl, Int.mul_le_mul_of_nonpos_left h hq.2⟩
  have hv : ∃ X, (X = x0 ∨ X = x1) ∧ v * p ≤ v * X := by
    rcases Int.le_total 0 v with h | h
    · exact ⟨x1, .inr rfl, Int.mul_le_mul_of_nonneg_left hp.2 h⟩
    · exact ⟨x0, .inl rfl, Int.mul_le_mul_of_nonpos_left h hp.1⟩
  obtain ⟨Y, hY, h1⟩ := hu
  obtain ⟨X, hX, h2⟩ := hv
  exact ⟨X, Y, hX, hY, by omega⟩
theorem crossI_uv (a0 a1 b0 b1 p q : Int) : crossI a0 a1 b0 b1 p q = ((b0 - a0) * q - (b1 - a1) * p) - ((b0 - a0) * a1 - (b1 - a1) * a0) := by
  unfold crossI
  rw [Int.mul_sub, Int.mul_sub]
  omega
theorem cross_low {a0 a1 b0 b1 p q x0 x1 y0 y1 : Int} (h : InR p q x0 x1 y0 y1) : ∃ X Y : Int, (X = x0 ∨ X = x1) ∧ (Y = y0 ∨ Y = y1) ∧ crossI a0 a1 b0 b1 X Y ≤ crossI a0 a1 b0 b1 p q := by
  obtain ⟨X, Y, hX, hY, h⟩ := corner_le (u := b0 - a0) (v := b1 - a1) ⟨h.1, h.2.1⟩ ⟨h.2.2.1, h.2.2.2⟩
  exact ⟨X, Y, hX, hY, by rw [crossI_uv, crossI_uv a0 a1 b0 b1 p q]; omega⟩
theorem cross_high {a0 a1 b0 b1 p q x0 x1 y0 y1 : Int} (h : InR p q x0 x1 y0 y1) : ∃ X Y : Int, (X = x0 ∨ X = x1) ∧ (Y = y0 ∨ Y = y1) ∧ crossI a0 a1 b0 b1 p q ≤ crossI a0 a1 b0 b1 X Y := by
  obtain ⟨X, Y, hX, hY, g⟩ := cross_low (a0 := b0) (a1 := b1) (b0 := a0) (b1 := a1) h
  rw [crossI_swap a0 a1 b0 b1, crossI_swap a0 a1 b0 b1] at g
  exact ⟨X, Y, hX, hY, by omega⟩
theorem all_pos {a0 a1 b0 b1 x0 x1 y0 y1 : Int} (h : crossI a0 a1 b0 b1 x0 y0 > 0 ∧ crossI a0 a1 b0 b1 x0 y1 > 0 ∧ crossI a0 a1 b0 b1 x1 y0 > 0 ∧ crossI a0 a1 b0 b1 x1 y1 > 0) {X Y : Int} (hX : X = x0 ∨ X = x1) (hY : Y = y0 ∨ Y = y1) : crossI a0 a1 b0 b1 X Y > 0 := by
  rcases hX with rfl | rfl <;> rcases hY with rfl | rfl
  · exact h.1
  · exact h.2.1
  · exact h.2.2.1
  · exact h.2.2.2
theorem all_neg {a0 a1 b0 b1 x0 x1 y0 y1 : Int} (h : crossI a0 a1 b0 b1 x0 y0 < 0 ∧ crossI a0 a1 b0 b1 x0 y1 < 0 ∧ crossI a0 a1 b0 b1 x1 y0 < 0 ∧ crossI a0 a1 b0 b1 x1 y1 < 0) {X Y : Int} (hX : X = x0 ∨ X = x1) (hY : Y = y0 ∨ Y = y1) : crossI a0 a1 b0 b1 X Y < 0 := by
  rcases hX with rfl | rfl <;> rcases hY with rfl | rfl
  · exact h.1
  · exact h.2.1
  · exact h.2.2.1
  · exact h.2.2.2
theorem seg_touch {a0 a1 b0 b1 c0 c1 d0 d1 x0 x1 y0 y1 : Int} (h : GeoI a0 a1 b0 b1 c0 c1 d0 d1) (hc : InR c0 c1 x0 x1 y0 y1) (hd : InR d0 d1 x0 x1 y0 y1) : TouchI a0 a1 b0 b1 x0 x1 y0 y1 := by
  have o := geo_touch h hc hd
  refine ⟨o.1, o.2, fun g => h.2.2.1 (.inl ?_), fun g => h.2.2.1 (.inr ?_)⟩
  · obtain ⟨X, Y, hX, hY, e⟩ := cross_low (a0 := a0) (a1 := a1) (b0 := b0) (b1 := b1) hc
    obtain ⟨X', Y', hX', hY', e'⟩ := cross_low (a0 := a0) (a1 := a1) (b0 := b0) (b1 := b1) hd
    have k1 := all_pos g hX hY
    have k2 := all_pos g hX' hY'
    exact ⟨by omega, by omega⟩
  · obtain ⟨X, Y, hX, hY, e⟩ := cross_high (a0 := a0) (a1 := a1) (b0 := b0) (b1 := b1) hc
    obtain ⟨X', Y', hX', hY', e'⟩ := cross_high (a0 := a0) (a1 := a1) (b0 := b0) (b1 := b1) hd
    have k1 := all_neg g hX hY
    have k2 := all_neg g hX' hY'
    exact ⟨by omega, by omega⟩
theorem nx_in {l : List S23} (h0 : 0 < l.length) (hin : l.any outP = false) (i : Nat) : InB (nx l i).f0 ∧ InB (nx l i).f1 := pt_in hin (Nat.mod_lt i h0)
theorem touchAt_iff {l : List S23} {x0 x1 y0 y1 : Int} (hl : simpleV l = 0) (hx : InB x0 ∧ InB x1) (hy : InB y0 ∧ InB y1) (h0 : x0 ≤ x1) (h1 : y0 ≤ y1) {i : Nat} (hi : i < l.length) :
    touchAt l x0 x1 y0 y1 i = true ↔ TouchI (pt l i).f0 (pt l i).f1 (nx l (i + 1)).f0 (nx l (i + 1)).f1 x0 x1 y0 y1 := by
  have z := simpleV_zero hl
  obtain ⟨t, e, h⟩ := touch_in (pt_in z.2.2.1 hi) (nx_in (by omega) z.2.2.1 (i + 1)) hx hy h0 h1
  unfold touchAt
  rw [e]
  exact h
theorem rect_side {l : List S23} {x0 x1 y0 y1 p0 p1 q0 q1 : Int} (hl : simpleV l = 0) (hx : InB x0 ∧ InB x1) (hy : InB y0 ∧ InB y1) (h0 : x0 ≤ x1) (h1 : y0 ≤ y1) (hn : ∀ i, i < l.length → ¬ touchAt l x0 x1 y0 y1 i = true)
    (hp : InR p0 p1 x0 x1 y0 y1) (hq : InR q0 q1 x0 x1 y0 y1) : sideV l p0 p1 = sideV l q0 q1 ∧ sideV l p0 p1 ≠ 0 := by
  have bp : InB p0 ∧ InB p1 := by unfold InB InR at *; omega
  have bq : InB q0 ∧ InB q1 := by unfold InB InR at *; omega
  exact sideV_same hl bp bq fun i hi g => hn i hi ((touchAt_iff hl hx hy h0 h1 hi).2 (seg_touch g hp hq))
theorem anyF_not {f : Nat → Bool} {n : Nat} (h : anyF f n n = false) : ∀ i, i < n → ¬ f i = true := fun i hi g => by
  have := (anyF_iff (f := f) (n := n) n (Nat.le_refl _)).2 ⟨i, by omega, hi, g⟩
  rw [h] at this
  cases this
theorem anyF_of_not {f : Nat → Bool} {n : Nat} (h : ∀ i, i < n → ¬ f i = true) : anyF f n n = false := by
  cases e : anyF f n n with
  | false => rfl
  | true =>
    obtain ⟨i, _, hi, g⟩ := (anyF_iff n (Nat.le_refl _)).1 e
    exact absurd g (h i hi)
theorem withinV_iff {l : List S23} {x0 x1 y0 y1 : Int} (hl : simpleV l = 0) : withinV l x0 x1 y0 y1 = true ↔ (InB x0 ∧ InB x1) ∧ (InB y0 ∧ InB y1) ∧ (∀ i, i < l.length → ¬ touchAt l x0 x1 y0 y1 i = true) ∧ sideV l x1 y1 = 1 := by
  unfold withinV
  simp only [Bool.and_eq_true, inQ_iff, Bool.not_eq_true', decide_eq_true_eq]
  constructor
  · rintro ⟨⟨h1, h2⟩, h3, h4⟩
    refine ⟨h1, h2, anyF_not h3, ?_⟩
    rw [sideA_ok hl, if_neg (by rw [(outP_eq _ _).2 ⟨h1.2, h2.2⟩]; exact Bool.false_ne_true)] at h4
    exact h4
  · rintro ⟨h1, h2, h3, h4⟩
    refine ⟨⟨h1, h2⟩, anyF_of_not h3, ?_⟩
    rw [sideA_ok hl, if_neg (by rw [(outP_eq _ _).2 ⟨h1.2, h2.2⟩]; exact Bool.false_ne_true)]
    exact h4
theorem within_point {l : List S23} {x0 x1 y0 y1 p q : Int} (hl : simpleV l = 0) (h : withinV l x0 x1 y0 y1 = true) (hp : InR p q x0 x1 y0 y1) : sideV l p q = 1 := by
  obtain ⟨h1, h2, h3, h4⟩ := (withinV_iff hl).1 h
  unfold InR at hp
  rw [(rect_side hl h1 h2 (by omega) (by omega) h3 hp (q0 := x1) (q1 := y1) (by unfold InR; omega)).1]
  exact h4
def rwithinV (l : List S23) (x0 x1 y0 y1 : Int) : Bool := ((inQ x0 && inQ x1) && (inQ y0 && inQ y1)) && (!anyF (fun i => touchR (pt l i).f0 (pt l i).f1 (nx l (i + 1)).f0 (nx l (i + 1)).f1 x0 x1 y0 y1) l.length l.length && decide (insideV l x0 y0 = 1))
theorem touchR_at {l : List S23} {x0 x1 y0 y1 : Int} (hl : simpleV l = 0) (hx : InB x0 ∧ InB x1) (hy : InB y0 ∧ InB y1) (h0 : x0 ≤ x1) (h1 : y0 ≤ y1) {i : Nat} (hi : i < l.length) :
    touchR (pt l i).f0 (pt l i).f1 (nx l (i + 1)).f0 (nx l (i + 1)).f1 x0 x1 y0 y1 = touchAt l x0 x1 y0 y1 i := by
  have z := simpleV_zero hl
  have a := pt_in z.2.2.1 hi
  have b := nx_in (l := l) (by omega) z.2.2.1 (i + 1)
  have q : ∀ {x y : Int}, InB x ∧ InB y → outP ⟨x, y⟩ = false := fun g => (outP_eq _ _).2 g
  unfold touchAt
  rw [touches_same, touchesR, if_neg (by simp [outT, q a, q b, q ⟨hx.1, hy.1⟩, q ⟨hx.2, hy.2⟩]), if_neg (by omega)]
theorem rwithin_same {l : List S23} {x0 x1 y0 y1 : Int} (hl : simpleV l = 0) (h0 : x0 ≤ x1) (h1 : y0 ≤ y1) : rwithinV l x0 x1 y0 y1 = withinV l x0 x1 y0 y1 := by
  unfold rwithinV withinV
  cases e : ((inQ x0 && inQ x1) && (inQ y0 && inQ y1)) with
  | false => rfl
  | true =>
    simp only [Bool.and_eq_true, inQ_iff] at e
    obtain ⟨hx, hy⟩ := e
    have ea : anyF (fun i => touchR (pt l i).f0 (pt l i).f1 (nx l (i + 1)).f0 (nx l (i + 1)).f1 x0 x1 y0 y1) l.length l.length = anyF (touchAt l x0 x1 y0 y1) l.length l.length := by
      rw [Bool.eq_iff_iff, anyF_iff _ (Nat.le_refl _), anyF_iff _ (Nat.le_refl _)]
      constructor
      · rintro ⟨i, g1, g2, g3⟩
        exact ⟨i, g1, g2, by rw [← touchR_at hl hx hy h0 h1 g2]; exact g3⟩
      · rintro ⟨i, g1, g2, g3⟩
        exact ⟨i, g1, g2, by rw [touchR_at hl hx hy h0 h1 g2]; exact g3⟩
    rw [ea, Bool.true_and, Bool.true_and]
    cases ht : anyF (touchAt l x0 x1 y0 y1) l.length l.length with
    | true => rfl
    | false =>
      rw [inside_same hl ⟨hx.1, hy.1⟩, sideA_ok hl, if_neg (by rw [(outP_eq _ _).2 ⟨hx.2, hy.2⟩]; exact Bool.false_ne_true)]
      rw [(rect_side hl hx hy h0 h1 (anyF_not ht) (p0 := x0) (p1 := y0) (q0 := x1) (q1 := y1) (by unfold InR; omega) (by unfold InR; omega)).1]
end Go.Proofs.Ytjalkjeldlchoaa.X
end
section
set_option linter.unusedSectionVars false
set_option linter.unusedSimpArgs false
set_option linter.unusedVariables false
namespace Go.Proofs.Ytjalkjeldlchoaa.Ex
open Go Go.RowKit Go.Proofs.Ytjalkjeldlchoaa.X
set_option linter.unusedVariables false
theorem rw_told {l : List S23} {c : Nat} {x0 x1 y0 y1 : Int} (h0 : 0 < l.length) (hn : l.length ≤ 64) :
    (anyF (fun i => touchR (pt l i).f0 (pt l i).f1 (nx l (i + 1)).f0 (nx l (i + 1)).f1 x0 x1 y0 y1) l.length l.length = true → CodeSpec Try.prog 1 rw_lC (frRw l.length c 0) (hpRw (pc l) x0 x1 y0 y1) ⟨.ret, frRwR, [.ro 39 (pc l)], []⟩) ∧
    (anyF (fun i => touchR (pt l i).f0 (pt l i).f1 (nx l (i + 1)).f0 (nx l (i + 1)).f1 x0 x1 y0 y1) l.length l.length = false → CodeSpec Try.prog 1 rw_lC (frRw l.length c 0) (hpRw (pc l) x0 x1 y0 y1) ⟨.exit 0, frRw l.length c l.length, hpRw (pc l) x0 x1 y0 y1, []⟩) := by
  have round : ∀ i, i < l.length → _ := fun i hi => rw_round l.length c (pc l) i (pt l i).f0 (pt l i).f1 (nx l (i + 1)).f0 (nx l (i + 1)).f1 x0 x1 y0 y1 (by omega) hn (pc_len l) (fun _ => mod_in _ h0) (fun _ => ptAt_of hi) (fun _ => nx_of (i := i + 1) h0 _ rfl)
  have h := any_rounds (P := Try.prog) (m0 := 1) (c := rw_l) (fr := frRw l.length c) (hp := hpRw (pc l) x0 x1 y0 y1) (rt := ⟨.ret, frRwR, [.ro 39 (pc l)], []⟩) (ex := ⟨.exit 0, frRw l.length c l.length, hpRw (pc l) x0 x1 y0 y1, []⟩) (f := fun i => touchR (pt l i).f0 (pt l i).f1 (nx l (i + 1)).f0 (nx l (i + 1)).f1 x0 x1 y0 y1) (n := l.length) (lo := 0) (by intro h; cases h) (by intro h; cases h)
    (fun i _ hi hf => round i hi _ (fun _ _ => out_eq) (fun _ h => absurd hf h) (fun h => absurd (by omega) h))
    (fun i _ hi hf => round i hi _ (fun _ h => absurd (hf.symm.trans h) Bool.false_ne_true) (fun _ _ => out_eq) (fun h => absurd (by omega) h))
    (rw_round l.length c (pc l) l.length 0 0 0 0 x0 x1 y0 y1 (by omega) hn (pc_len l) (fun h => by omega) (fun h => by omega) (fun h => by omega) _ (fun h => by omega) (fun h => by omega) (fun _ => out_eq)) l.length 0 (by omega) (by omega)
  exact ⟨fun g => (h.1 g).code, fun g => (h.2 g).code⟩
theorem rwithin_done {l : List S23} {c : Nat} {x0 x1 y0 y1 : Int} (hl : simpleV l = 0) (hx : x0 ≤ x1) (hy : y0 ≤ y1) : CallSpec Try.prog 54 [slB 0 l.length c, pV x0 x1, pV y0 y1] [.ro 39 (pc l)] ⟨.bool (withinV l x0 x1 y0 y1), [.ro 39 (pc l)], []⟩ := by
  have z := simpleV_zero hl
  have h0 : 0 < l.length := by omega
  have hw := rw_told (c := c) (x0 := x0) (x1 := x1) (y0 := y0) (y1 := y1) h0 z.2.1
  rw [← rwithin_same hl hx hy]
  unfold rwithinV
  have q : ∀ {x : Int}, ¬ (!inQ x) = true → inQ x = true := fun h => by simpa using h
  have q' : ∀ {x : Int}, (!inQ x) = true → inQ x = false := fun h => by simpa using h
  cases ht : anyF (fun i => touchR (pt l i).f0 (pt l i).f1 (nx l (i + 1)).f0 (nx l (i + 1)).f1 x0 x1 y0 y1) l.length l.length with
  | true =>
    refine rw_T _ _ _ _ _ _ _ ⟨h0, z.2.1⟩ (hw.1 ht) _ (fun h => res_b ?_) (fun h g => res_b ?_) (fun h g k => res_b ?_) (fun h g k p => res_b ?_) (fun h g k p => res_b ?_)
    all_goals rw [Bool.not_true, Bool.false_and, Bool.and_false]
  | false =>
    refine rw_E _ _ _ _ _ _ _ _ ⟨h0, z.2.1⟩ (hw.2 ht) (fun a b => rinside_done (c := c) h0 z.2.1 z.2.2.1 ⟨inQ_iff.1 a, inQ_iff.1 b⟩) _ (fun h => res_b ?_) (fun h g => res_b ?_) (fun h g k => res_b ?_) (fun h g k p => res_b ?_) (fun h g k p => res_b ?_)
    · rw [q' h]; rfl
    · rw [q h, q' g]; rfl
    · rw [q h, q g, q' k]; rfl
    · rw [q h, q g, q k, q' p]; rfl
    · rw [q h, q g, q k, q p]; rfl
theorem rlane_done {l : List S23} {c : Nat} {a0 a1 b0 b1 k : Int} (hl : simpleV l = 0) (hq : quad a0 a1 b0 b1 = true) (hk : 0 ≤ k) : CallSpec Try.prog 57 [slB 0 l.length c, pV a0 a1, pV b0 b1, .int .i64 k] [.ro 39 (pc l)] ⟨.bool (laneV l a0 a1 b0 b1 k), [.ro 39 (pc l)], []⟩ := by
  obtain ⟨⟨q1, q2⟩, q3, q4⟩ := quad_in hq
  unfold InB at *
  refine rlane_ok _ _ _ l _ _ _ _ _ ⟨q1.1, q1.2, q2.1, q2.2⟩ ⟨q3.1, q3.2, q4.1, q4.2⟩ hk (fun x0 x1 y0 y1 h g => rwithin_done hl h g) _ (fun h => res_b ?_) (fun h => res_b ?_)
  · unfold laneV
    cases e : withinV l (mn a0 b0 - roomV k) (mx a0 b0 + roomV k) (mn a1 b1 - roomV k) (mx a1 b1 + roomV k) with
    | false => rfl
    | true =>
      have w := ((withinV_iff hl).1 e).1.1
      unfold InB mn roomV at w
      exfalso
      split at w <;> split at w <;> omega
  · have e : roomV k = k := by
      unfold roomV
      split <;> omega
    unfold laneV
    rw [e]
    rfl
end Go.Proofs.Ytjalkjeldlchoaa.Ex
end
section
set_option linter.unusedSectionVars false
set_option linter.unusedSimpArgs false
set_option linter.unusedVariables false
namespace Go.Proofs.Ytjalkjeldlchoaa.Ex
open Go
set_option linter.unusedVariables false
section
variable (fl ce e a0 a1 b0 b1 k : Int) (he : e ≠ 0) (kC : CallSpec Try.prog 19 [fV slN fl ce slN] [] (.mk (.int .i64 e) [] []))
include fl ce e a0 a1 b0 b1 k he kC
theorem rlanes_nn_p : go (exec (Try.prog) (8) (24) ([fV slN fl ce slN, pV a0 a1, pV b0 b1, .int .i64 k]) ([])) [(15, .call (.mk (.int .i64 e) [] [])), (7, .dec true)] = some (.mk (.tuple #[.bool false, .int .i64 e]) [] [], true, [type_of% kC, (!decide (e = 0)) = true]) := by kernel_rfl
theorem rlanes_nn (R : Res) (k_p : Res.le (.mk (.tuple #[.bool false, .int .i64 e]) [] []) R) : CallSpec (Try.prog) (24) ([fV slN fl ce slN, pV a0 a1, pV b0 b1, .int .i64 k]) ([]) R := by
  exact (CallSpec.id (go_ok (exec_ok tnamed tcalm tmixed _ _ _ _) (rlanes_nn_p fl ce e a0 a1 b0 b1 k he kC ) (aC (kC) (aC (congrArg not dN) aN)))).le (k_p )
end
section
variable (fl ce e a0 a1 b0 b1 k : Int) (he : e ≠ 0) (kC : CallSpec Try.prog 19 [fV slN fl ce (slD 0)] [.dead] (.mk (.int .i64 e) [.dead] []))
include fl ce e a0 a1 b0 b1 k he kC
theorem rlanes_nd_p : go (exec (Try.prog) (8) (24) ([fV slN fl ce (slD 0), pV a0 a1, pV b0 b1, .int .i64 k]) ([.dead])) [(15, .call (.mk (.int .i64 e) [.dead] [])), (7, .dec true)] = some (.mk (.tuple #[.bool false, .int .i64 e]) [.dead] [], true, [type_of% kC, (!decide (e = 0)) = true]) := by kernel_rfl
theorem rlanes_nd (R : Res) (k_p : Res.le (.mk (.tuple #[.bool false, .int .i64 e]) [.dead] []) R) : CallSpec (Try.prog) (24) ([fV slN fl ce (slD 0), pV a0 a1, pV b0 b1, .int .i64 k]) ([.dead]) R := by
  exact (CallSpec.id (go_ok (exec_ok tnamed tcalm tmixed _ _ _ _) (rlanes_nd_p fl ce e a0 a1 b0 b1 k he kC ) (aC (kC) (aC (congrArg not dN) aN)))).le (k_p )
end
section
variable (m : Nat) (rs : List Value) (fl ce e a0 a1 b0 b1 k : Int) (he : e ≠ 0) (kC : CallSpec Try.prog 19 [fV slN fl ce (slB 0 m m)] [.ro 39 rs] (.mk (.int .i64 e) [.ro 39 rs] []))
include m rs fl ce e a0 a1 b0 b1 k he kC
theorem rlanes_nb_p : go (exec (Try.prog) (8) (24) ([fV slN fl ce (slB 0 m m), pV a0 a1, pV b0 b1, .int .i64 k]) ([.ro 39 rs])) [(15, .call (.mk (.int .i64 e) [.ro 39 rs] [])), (7, .dec true)] = some (.mk (.tuple #[.bool false, .int .i64 e]) [.ro 39 rs] [], true, [type_of% kC, (!decide (e = 0)) = true]) := by kernel_rfl
theorem rlanes_nb (R : Res) (k_p : Res.le (.mk (.tuple #[.bool false, .int .i64 e]) [.ro 39 rs] []) R) : CallSpec (Try.prog) (24) ([fV slN fl ce (slB 0 m m), pV a0 a1, pV b0 b1, .int .i64 k]) ([.ro 39 rs]) R := by
  exact (CallSpec.id (go_ok (exec_ok tnamed tcalm tmixed _ _ _ _) (rlanes_nb_p m rs fl ce e a0 a1 b0 b1 k he kC ) (aC (kC) (aC (congrArg not dN) aN)))).le (k_p )
end
section
variable (fl ce e a0 a1 b0 b1 k : Int) (he : e ≠ 0) (kC : CallSpec Try.prog 19 [fV (slD 0) fl ce slN] [.dead] (.mk (.int .i64 e) [.dead] []))
include fl ce e a0 a1 b0 b1 k he kC
theorem rlanes_dn_p : go (exec (Try.prog) (8) (24) ([fV (slD 0) fl ce slN, pV a0 a1, pV b0 b1, .int .i64 k]) ([.dead])) [(15, .call (.mk (.int .i64 e) [.dead] [])), (7, .dec true)] = some (.mk (.tuple #[.bool false, .int .i64 e]) [.dead] [], true, [type_of% kC, (!decide (e = 0)) = true]) := by kernel_rfl
theorem rlanes_dn (R : Res) (k_p : Res.le (.mk (.tuple #[.bool false, .int .i64 e]) [.dead] []) R) : CallSpec (Try.prog) (24) ([fV (slD 0) fl ce slN, pV a0 a1, pV b0 b1, .int .i64 k]) ([.dead]) R := by
  exact (CallSpec.id (go_ok (exec_ok tnamed tcalm tmixed _ _ _ _) (rlanes_dn_p fl ce e a0 a1 b0 b1 k he kC ) (aC (kC) (aC (congrArg not dN) aN)))).le (k_p )
end
section
variable (fl ce e a0 a1 b0 b1 k : Int) (he : e ≠ 0) (kC : CallSpec Try.prog 19 [fV (slD 0) fl ce (slD 1)] [.dead, .dead] (.mk (.int .i64 e) [.dead, .dead] []))
include fl ce e a0 a1 b0 b1 k he kC
theorem rlanes_dd_p : go (exec (Try.prog) (8) (24) ([fV (slD 0) fl ce (slD 1), pV a0 a1, pV b0 b1, .int .i64 k]) ([.dead, .dead])) [(15, .call (.mk (.int .i64 e) [.dead, .dead] [])), (7, .dec true)] = some (.mk (.tuple #[.bool false, .int .i64 e]) [.dead, .dead] [], true, [type_of% kC, (!decide (e = 0)) = true]) := by kernel_rfl
theorem rlanes_dd (R : Res) (k_p : Res.le (.mk (.tuple #[.bool false, .int .i64 e]) [.dead, .dead] []) R) : CallSpec (Try.prog) (24) ([fV (slD 0) fl ce (slD 1), pV a0 a1, pV b0 b1, .int .i64 k]) ([.dead, .dead]) R := by
  exact (CallSpec.id (go_ok (exec_ok tnamed tcalm tmixed _ _ _ _) (rlanes_dd_p fl ce e a0 a1 b0 b1 k he kC ) (aC (kC) (aC (congrArg not dN) aN)))).le (k_p )
end
section
variable (m : Nat) (rs : List Value) (fl ce e a0 a1 b0 b1 k : Int) (he : e ≠ 0) (kC : CallSpec Try.prog 19 [fV (slD 0) fl ce (slB 1 m m)] [.dead, .ro 39 rs] (.mk (.int .i64 e) [.dead, .ro 39 rs] []))
include m rs fl ce e a0 a1 b0 b1 k he kC
theorem rlanes_db_p : go (exec (Try.prog) (8) (24) ([fV (slD 0) fl ce (slB 1 m m), pV a0 a1, pV b0 b1, .int .i64 k]) ([.dead, .ro 39 rs])) [(15, .call (.mk (.int .i64 e) [.dead, .ro 39 rs] [])), (7, .dec true)] = some (.mk (.tuple #[.bool false, .int .i64 e]) [.dead, .ro 39 rs] [], true, [type_of% kC, (!decide (e = 0)) = true]) := by kernel_rfl
theorem rlanes_db (R : Res) (k_p : Res.le (.mk (.tuple #[.bool false, .int .i64 e]) [.dead, .ro 39 rs] []) R) : CallSpec (Try.prog) (24) ([fV (slD 0) fl ce (slB 1 m m), pV a0 a1, pV b0 b1, .int .i64 k]) ([.dead, .ro 39 rs]) R := by
  exact (CallSpec.id (go_ok (exec_ok tnamed tcalm tmixed _ _ _ _) (rlanes_db_p m rs fl ce e a0 a1 b0 b1 k he kC ) (aC (kC) (aC (congrArg not dN) aN)))).le (k_p )
end
section
variable (n : Nat) (cs : List Value) (fl ce e a0 a1 b0 b1 k : Int) (kC : CallSpec Try.prog 19 [fV (slB 0 n n) fl ce slN] [.ro 39 cs] (.mk (.int .i64 e) [.ro 39 cs] [])) (w : Bool) (kL : e = 0 → X.outP (X.S23.mk a0 a1) = false → X.outP (X.S23.mk b0 b1) = false → 0 ≤ k → CallSpec Try.prog 57 [slB 0 n n, pV a0 a1, pV b0 b1, .int .i64 k] [.ro 39 cs] (.mk (.bool w) [.ro 39 cs] []))
include n cs fl ce e a0 a1 b0 b1 k kC w kL
theorem rlanes_bn_pt : go (exec (Try.prog) (8) (24) ([fV (slB 0 n n) fl ce slN, pV a0 a1, pV b0 b1, .int .i64 k]) ([.ro 39 cs])) [(15, .call (.mk (.int .i64 e) [.ro 39 cs] [])), (7, .dec true)] = some (.mk (.tuple #[.bool false, .int .i64 e]) [.ro 39 cs] [], true, [type_of% kC, (!decide (e = 0)) = true]) := by kernel_rfl
theorem rlanes_bn_pft : go (exec (Try.prog) (8) (24) ([fV (slB 0 n n) fl ce slN, pV a0 a1, pV b0 b1, .int .i64 k]) ([.ro 39 cs])) [(15, .call (.mk (.int .i64 e) [.ro 39 cs] [])), (7, .dec false), (2, .call (.mk (.bool !X.outP (X.S23.mk a0 a1)) [] [])), (4, .dec true), (0, .dec true), (0, .dec true), (0, .dec true)] = some (.mk (.tuple #[.bool false, .int .i64 5]) [.ro 39 cs] [], true, [type_of% kC, (!decide (e = 0)) = false, CallSpec Try.prog 49 [(a2 a0 a1)] [] (.mk (.bool !X.outP (X.S23.mk a0 a1)) [] []), (!!X.outP (X.S23.mk a0 a1)) = true, (!!X.outP (X.S23.mk a0 a1)) = true, (!!X.outP (X.S23.mk a0 a1)) = true, (!!X.outP (X.S23.mk a0 a1)) = true]) := by kernel_rfl
theorem rlanes_bn_pfft : go (exec (Try.prog) (8) (24) ([fV (slB 0 n n) fl ce slN, pV a0 a1, pV b0 b1, .int .i64 k]) ([.ro 39 cs])) [(15, .call (.mk (.int .i64 e) [.ro 39 cs] [])), (7, .dec false), (2, .call (.mk (.bool !X.outP (X.S23.mk a0 a1)) [] [])), (4, .dec false), (2, .dec false), (0, .call (.mk (.bool !X.outP (X.S23.mk b0 b1)) [] [])), (2, .dec false), (1, .dec false), (2, .dec true)] = some (.mk (.tuple #[.bool false, .int .i64 5]) [.ro 39 cs] [], true, [type_of% kC, (!decide (e = 0)) = false, CallSpec Try.prog 49 [(a2 a0 a1)] [] (.mk (.bool !X.outP (X.S23.mk a0 a1)) [] []), (!!X.outP (X.S23.mk a0 a1)) = false, (!!X.outP (X.S23.mk a0 a1)) = false, CallSpec Try.prog 49 [(a2 b0 b1)] [] (.mk (.bool !X.outP (X.S23.mk b0 b1)) [] []), (!!X.outP (X.S23.mk a0 a1)) = false, (!!X.outP (X.S23.mk a0 a1)) = false, (!!X.outP (X.S23.mk b0 b1)) = true]) := by kernel_rfl
theorem rlanes_bn_pffft : go (exec (Try.prog) (8) (24) ([fV (slB 0 n n) fl ce slN, pV a0 a1, pV b0 b1, .int .i64 k]) ([.ro 39 cs])) [(15, .call (.mk (.int .i64 e) [.ro 39 cs] [])), (7, .dec false), (2, .call (.mk (.bool !X.outP (X.S23.mk a0 a1)) [] [])), (4, .dec false), (2, .dec false), (0, .call (.mk (.bool !X.outP (X.S23.mk b0 b1)) [] [])), (2, .dec false), (1, .dec false), (2, .dec false), (3, .dec true)] = some (.mk (.tuple #[.bool false, .int .i64 1]) [.ro 39 cs] [], true, [type_of% kC, (!decide (e = 0)) = false, CallSpec Try.prog 49 [(a2 a0 a1)] [] (.mk (.bool !X.outP (X.S23.mk a0 a1)) [] []), (!!X.outP (X.S23.mk a0 a1)) = false, (!!X.outP (X.S23.mk a0 a1)) = false, CallSpec Try.prog 49 [(a2 b0 b1)] [] (.mk (.bool !X.outP (X.S23.mk b0 b1)) [] []), (!!X.outP (X.S23.mk a0 a1)) = false, (!!X.outP (X.S23.mk a0 a1)) = false, (!!X.outP (X.S23.mk b0 b1)) = false, decide (k < 0) = true]) := by kernel_rfl
theorem rlanes_bn_pffff : go (exec (Try.prog) (8) (24) ([fV (slB 0 n n) fl ce slN, pV a0 a1, pV b0 b1, .int .i64 k]) ([.ro 39 cs])) [(15, .call (.mk (.int .i64 e) [.ro 39 cs] [])), (7, .dec false), (2, .call (.mk (.bool !X.outP (X.S23.mk a0 a1)) [] [])), (4, .dec false), (2, .dec false), (0, .call (.mk (.bool !X.outP (X.S23.mk b0 b1)) [] [])), (2, .dec false), (1, .dec false), (2, .dec false), (3, .dec false), (8, .call (.mk (.bool w) [.ro 39 cs] []))] = some (.mk (.tuple #[.bool w, .int .i64 0]) [.ro 39 cs] [], true, [type_of% kC, (!decide (e = 0)) = false, CallSpec Try.prog 49 [(a2 a0 a1)] [] (.mk (.bool !X.outP (X.S23.mk a0 a1)) [] []), (!!X.outP (X.S23.mk a0 a1)) = false, (!!X.outP (X.S23.mk a0 a1)) = false, CallSpec Try.prog 49 [(a2 b0 b1)] [] (.mk (.bool !X.outP (X.S23.mk b0 b1)) [] []), (!!X.outP (X.S23.mk a0 a1)) = false, (!!X.outP (X.S23.mk a0 a1)) = false, (!!X.outP (X.S23.mk b0 b1)) = false, decide (k < 0) = false, CallSpec Try.prog 57 [(sB 0 n n), (a2 a0 a1), (a2 b0 b1), .int .i64 k] [.ro 39 cs] (.mk (.bool w) [.ro 39 cs] [])]) := by kernel_rfl
theorem rlanes_bn (R : Res) (k_pt : (h0 : ¬e = 0) → Res.le (.mk (.tuple #[.bool false, .int .i64 e]) [.ro 39 cs] []) R) (k_pft : (h0 : ¬ (¬e = 0)) → (h1 : (!!X.outP (X.S23.mk a0 a1)) = true) → Res.le (.mk (.tuple #[.bool false, .int .i64 5]) [.ro 39 cs] []) R) (k_pfft : (h0 : ¬ (¬e = 0)) → (h1 : ¬ ((!!X.outP (X.S23.mk a0 a1)) = true)) → (h2 : (!!X.outP (X.S23.mk b0 b1)) = true) → Res.le (.mk (.tuple #[.bool false, .int .i64 5]) [.ro 39 cs] []) R) (k_pffft : (h0 : ¬ (¬e = 0)) → (h1 : ¬ ((!!X.outP (X.S23.mk a0 a1)) = true)) → (h2 : ¬ ((!!X.outP (X.S23.mk b0 b1)) = true)) → (h3 : k < 0) → Res.le (.mk (.tuple #[.bool false, .int .i64 1]) [.ro 39 cs] []) R) (k_pffff : (h0 : ¬ (¬e = 0)) → (h1 : ¬ ((!!X.outP (X.S23.mk a0 a1)) = true)) → (h2 : ¬ ((!!X.outP (X.S23.mk b0 b1)) = true)) → (h3 : ¬ (k < 0)) → Res.le (.mk (.tuple #[.bool w, .int .i64 0]) [.ro 39 cs] []) R) : CallSpec (Try.prog) (24) ([fV (slB 0 n n) fl ce slN, pV a0 a1, pV b0 b1, .int .i64 k]) ([.ro 39 cs]) R := by
  by_cases h0 : ¬e = 0
  · exact (CallSpec.id (go_ok (exec_ok tnamed tcalm tmixed _ _ _ _) (rlanes_bn_pt n cs fl ce e a0 a1 b0 b1 k kC w kL ) (aC (kC) (aC ((by simpa using h0)) aN)))).le (k_pt h0)
  · by_cases h1 : (!!X.outP (X.S23.mk a0 a1)) = true
    · exact (CallSpec.id (go_ok (exec_ok tnamed tcalm tmixed _ _ _ _) (rlanes_bn_pft n cs fl ce e a0 a1 b0 b1 k kC w kL ) (aC (kC) (aC ((by simpa using h0)) (aC ((fits_done _ _)) (aC (h1) (aC (h1) (aC (h1) (aC (h1) aN))))))))).le (k_pft h0 h1)
    · by_cases h2 : (!!X.outP (X.S23.mk b0 b1)) = true
      · exact (CallSpec.id (go_ok (exec_ok tnamed tcalm tmixed _ _ _ _) (rlanes_bn_pfft n cs fl ce e a0 a1 b0 b1 k kC w kL ) (aC (kC) (aC ((by simpa using h0)) (aC ((fits_done _ _)) (aC ((bF h1)) (aC ((bF h1)) (aC ((fits_done _ _)) (aC ((bF h1)) (aC ((bF h1)) (aC (h2) aN))))))))))).le (k_pfft h0 h1 h2)
      · by_cases h3 : k < 0
        · exact (CallSpec.id (go_ok (exec_ok tnamed tcalm tmixed _ _ _ _) (rlanes_bn_pffft n cs fl ce e a0 a1 b0 b1 k kC w kL ) (aC (kC) (aC ((by simpa using h0)) (aC ((fits_done _ _)) (aC ((bF h1)) (aC ((bF h1)) (aC ((fits_done _ _)) (aC ((bF h1)) (aC ((bF h1)) (aC ((bF h2)) (aC (dT h3) aN)))))))))))).le (k_pffft h0 h1 h2 h3)
        · exact (CallSpec.id (go_ok (exec_ok tnamed tcalm tmixed _ _ _ _) (rlanes_bn_pffff n cs fl ce e a0 a1 b0 b1 k kC w kL ) (aC (kC) (aC ((by simpa using h0)) (aC ((fits_done _ _)) (aC ((bF h1)) (aC ((bF h1)) (aC ((fits_done _ _)) (aC ((bF h1)) (aC ((bF h1)) (aC ((bF h2)) (aC (dF h3) (aC ((kL (by omega) (by simpa using h1) (by simpa using h2) (by omega))) aN))))))))))))).le (k_pffff h0 h1 h2 h3)
end
section
variable (n : Nat) (cs : List Value) (fl ce e a0 a1 b0 b1 k : Int) (kC : CallSpec Try.prog 19 [fV (slB 0 n n) fl ce (slD 1)] [.ro 39 cs, .dead] (.mk (.int .i64 e) [.ro 39 cs, .dead] [])) (w : Bool) (kL : e = 0 → X.outP (X.S23.mk a0 a1) = false → X.outP (X.S23.mk b0 b1) = false → 0 ≤ k → CallSpec Try.prog 57 [slB 0 n n, pV a0 a1, pV b0 b1, .int .i64 k] [.ro 39 cs] (.mk (.bool w) [.ro 39 cs] []))
include n cs fl ce e a0 a1 b0 b1 k kC w kL
theorem rlanes_bd_pt : go (exec (Try.prog) (8) (24) ([fV (slB 0 n n) fl ce (slD 1), pV a0 a1, pV b0 b1, .int .i64 k]) ([.ro 39 cs, .dead])) [(15, .call (.mk (.int .i64 e) [.ro 39 cs, .dead] [])), (7, .dec true)] = some (.mk (.tuple #[.bool false, .int .i64 e]) [.ro 39 cs, .dead] [], true, [type_of% kC, (!decide (e = 0)) = true]) := by kernel_rfl
theorem rlanes_bd_pft : go (exec (Try.prog) (8) (24) ([fV (slB 0 n n) fl ce (slD 1), pV a0 a1, pV b0 b1, .int .i64 k]) ([.ro 39 cs, .dead])) [(15, .call (.mk (.int .i64 e) [.ro 39 cs, .dead] [])), (7, .dec false), (2, .call (.mk (.bool !X.outP (X.S23.mk a0 a1)) [] [])), (4, .dec true), (0, .dec true), (0, .dec true), (0, .dec true)] = some (.mk (.tuple #[.bool false, .int .i64 5]) [.ro 39 cs, .dead] [], true, [type_of% kC, (!decide (e = 0)) = false, CallSpec Try.prog 49 [(a2 a0 a1)] [] (.mk (.bool !X.outP (X.S23.mk a0 a1)) [] []), (!!X.outP (X.S23.mk a0 a1)) = true, (!!X.outP (X.S23.mk a0 a1)) = true, (!!X.outP (X.S23.mk a0 a1)) = true, (!!X.outP (X.S23.mk a0 a1)) = true]) := by kernel_rfl
theorem rlanes_bd_pfft : go (exec (Try.prog) (8) (24) ([fV (slB 0 n n) fl ce (slD 1), pV a0 a1, pV b0 b1, .int .i64 k]) ([.ro 39 cs, .dead])) [(15, .call (.mk (.int .i64 e) [.ro 39 cs, .dead] [])), (7, .dec false), (2, .call (.mk (.bool !X.outP (X.S23.mk a0 a1)) [] [])), (4, .dec false), (2, .dec false), (0, .call (.mk (.bool !X.outP (X.S23.mk b0 b1)) [] [])), (2, .dec false), (1, .dec false), (2, .dec true)] = some (.mk (.tuple #[.bool false, .int .i64 5]) [.ro 39 cs, .dead] [], true, [type_of% kC, (!decide (e = 0)) = false, CallSpec Try.prog 49 [(a2 a0 a1)] [] (.mk (.bool !X.outP (X.S23.mk a0 a1)) [] []), (!!X.outP (X.S23.mk a0 a1)) = false, (!!X.outP (X.S23.mk a0 a1)) = false, CallSpec Try.prog 49 [(a2 b0 b1)] [] (.mk (.bool !X.outP (X.S23.mk b0 b1)) [] []), (!!X.outP (X.S23.mk a0 a1)) = false, (!!X.outP (X.S23.mk a0 a1)) = false, (!!X.outP (X.S23.mk b0 b1)) = true]) := by kernel_rfl
theorem rlanes_bd_pffft : go (exec (Try.prog) (8) (24) ([fV (slB 0 n n) fl ce (slD 1), pV a0 a1, pV b0 b1, .int .i64 k]) ([.ro 39 cs, .dead])) [(15, .call (.mk (.int .i64 e) [.ro 39 cs, .dead] [])), (7, .dec false), (2, .call (.mk (.bool !X.outP (X.S23.mk a0 a1)) [] [])), (4, .dec false), (2, .dec false), (0, .call (.mk (.bool !X.outP (X.S23.mk b0 b1)) [] [])), (2, .dec false), (1, .dec false), (2, .dec false), (3, .dec true)] = some (.mk (.tuple #[.bool false, .int .i64 1]) [.ro 39 cs, .dead] [], true, [type_of% kC, (!decide (e = 0)) = false, CallSpec Try.prog 49 [(a2 a0 a1)] [] (.mk (.bool !X.outP (X.S23.mk a0 a1)) [] []), (!!X.outP (X.S23.mk a0 a1)) = false, (!!X.outP (X.S23.mk a0 a1)) = false, CallSpec Try.prog 49 [(a2 b0 b1)] [] (.mk (.bool !X.outP (X.S23.mk b0 b1)) [] []), (!!X.outP (X.S23.mk a0 a1)) = false, (!!X.outP (X.S23.mk a0 a1)) = false, (!!X.outP (X.S23.mk b0 b1)) = false, decide (k < 0) = true]) := by kernel_rfl
theorem rlanes_bd_pffff : go (exec (Try.prog) (8) (24) ([fV (slB 0 n n) fl ce (slD 1), pV a0 a1, pV b0 b1, .int .i64 k]) ([.ro 39 cs, .dead])) [(15, .call (.mk (.int .i64 e) [.ro 39 cs, .dead] [])), (7, .dec false), (2, .call (.mk (.bool !X.outP (X.S23.mk a0 a1)) [] [])), (4, .dec false), (2, .dec false), (0, .call (.mk (.bool !X.outP (X.S23.mk b0 b1)) [] [])), (2, .dec false), (1, .dec false), (2, .dec false), (3, .dec false), (8, .call (.mk (.bool w) [.ro 39 cs] []))] = some (.mk (.tuple #[.bool w, .int .i64 0]) [.ro 39 cs, .dead] [], true, [type_of% kC, (!decide (e = 0)) = false, CallSpec Try.prog 49 [(a2 a0 a1)] [] (.mk (.bool !X.outP (X.S23.mk a0 a1)) [] []), (!!X.outP (X.S23.mk a0 a1)) = false, (!!X.outP (X.S23.mk a0 a1)) = false, CallSpec Try.prog 49 [(a2 b0 b1)] [] (.mk (.bool !X.outP (X.S23.mk b0 b1)) [] []), (!!X.outP (X.S23.mk a0 a1)) = false, (!!X.outP (X.S23.mk a0 a1)) = false, (!!X.outP (X.S23.mk b0 b1)) = false, decide (k < 0) = false, CallSpec Try.prog 57 [(sB 0 n n), (a2 a0 a1), (a2 b0 b1), .int .i64 k] [.ro 39 cs] (.mk (.bool w) [.ro 39 cs] [])]) := by kernel_rfl
theorem rlanes_bd (R : Res) (k_pt : (h0 : ¬e = 0) → Res.le (.mk (.tuple #[.bool false, .int .i64 e]) [.ro 39 cs, .dead] []) R) (k_pft : (h0 : ¬ (¬e = 0)) → (h1 : (!!X.outP (X.S23.mk a0 a1)) = true) → Res.le (.mk (.tuple #[.bool false, .int .i64 5]) [.ro 39 cs, .dead] []) R) (k_pfft : (h0 : ¬ (¬e = 0)) → (h1 : ¬ ((!!X.outP (X.S23.mk a0 a1)) = true)) → (h2 : (!!X.outP (X.S23.mk b0 b1)) = true) → Res.le (.mk (.tuple #[.bool false, .int .i64 5]) [.ro 39 cs, .dead] []) R) (k_pffft : (h0 : ¬ (¬e = 0)) → (h1 : ¬ ((!!X.outP (X.S23.mk a0 a1)) = true)) → (h2 : ¬ ((!!X.outP (X.S23.mk b0 b1)) = true)) → (h3 : k < 0) → Res.le (.mk (.tuple #[.bool false, .int .i64 1]) [.ro 39 cs, .dead] []) R) (k_pffff : (h0 : ¬ (¬e = 0)) → (h1 : ¬ ((!!X.outP (X.S23.mk a0 a1)) = true)) → (h2 : ¬ ((!!X.outP (X.S23.mk b0 b1)) = true)) → (h3 : ¬ (k < 0)) → Res.le (.mk (.tuple #[.bool w, .int .i64 0]) [.ro 39 cs, .dead] []) R) : CallSpec (Try.prog) (24) ([fV (slB 0 n n) fl ce (slD 1), pV a0 a1, pV b0 b1, .int .i64 k]) ([.ro 39 cs, .dead]) R := by
  by_cases h0 : ¬e = 0
  · exact (CallSpec.id (go_ok (exec_ok tnamed tcalm tmixed _ _ _ _) (rlanes_bd_pt n cs fl ce e a0 a1 b0 b1 k kC w kL ) (aC (kC) (aC ((by simpa using h0)) aN)))).le (k_pt h0)
  · by_cases h1 : (!!X.outP (X.S23.mk a0 a1)) = true
    · exact (CallSpec.id (go_ok (exec_ok tnamed tcalm tmixed _ _ _ _) (rlanes_bd_pft n cs fl ce e a0 a1 b0 b1 k kC w kL ) (aC (kC) (aC ((by simpa using h0)) (aC ((fits_done _ _)) (aC (h1) (aC (h1) (aC (h1) (aC (h1) aN))))))))).le (k_pft h0 h1)
    · by_cases h2 : (!!X.outP (X.S23.mk b0 b1)) = true
      · exact (CallSpec.id (go_ok (exec_ok tnamed tcalm tmixed _ _ _ _) (rlanes_bd_pfft n cs fl ce e a0 a1 b0 b1 k kC w kL ) (aC (kC) (aC ((by simpa using h0)) (aC ((fits_done _ _)) (aC ((bF h1)) (aC ((bF h1)) (aC ((fits_done _ _)) (aC ((bF h1)) (aC ((bF h1)) (aC (h2) aN))))))))))).le (k_pfft h0 h1 h2)
      · by_cases h3 : k < 0
        · exact (CallSpec.id (go_ok (exec_ok tnamed tcalm tmixed _ _ _ _) (rlanes_bd_pffft n cs fl ce e a0 a1 b0 b1 k kC w kL ) (aC (kC) (aC ((by simpa using h0)) (aC ((fits_done _ _)) (aC ((bF h1)) (aC ((bF h1)) (aC ((fits_done _ _)) (aC ((bF h1)) (aC ((bF h1)) (aC ((bF h2)) (aC (dT h3) aN)))))))))))).le (k_pffft h0 h1 h2 h3)
        · exact (CallSpec.id (go_ok (exec_ok tnamed tcalm tmixed _ _ _ _) (rlanes_bd_pffff n cs fl ce e a0 a1 b0 b1 k kC w kL ) (aC (kC) (aC ((by simpa using h0)) (aC ((fits_done _ _)) (aC ((bF h1)) (aC ((bF h1)) (aC ((fits_done _ _)) (aC ((bF h1)) (aC ((bF h1)) (aC ((bF h2)) (aC (dF h3) (aC ((kL (by omega) (by simpa using h1) (by simpa using h2) (by omega))) aN))))))))))))).le (k_pffff h0 h1 h2 h3)
end
section
variable (n : Nat) (cs : List Value) (m : Nat) (rs : List Value) (fl ce e a0 a1 b0 b1 k : Int) (kC : CallSpec Try.prog 19 [fV (slB 0 n n) fl ce (slB 1 m m)] [.ro 39 cs, .ro 39 rs] (.mk (.int .i64 e) [.ro 39 cs, .ro 39 rs] [])) (w : Bool) (kL : e = 0 → X.outP (X.S23.mk a0 a1) = false → X.outP (X.S23.mk b0 b1) = false → 0 ≤ k → CallSpec Try.prog 57 [slB 0 n n, pV a0 a1, pV b0 b1, .int .i64 k] [.ro 39 cs] (.mk (.bool w) [.ro 39 cs] []))
include n cs m rs fl ce e a0 a1 b0 b1 k kC w kL
theorem rlanes_bb_pt : go (exec (Try.prog) (8) (24) ([fV (slB 0 n n) fl ce (slB 1 m m), pV a0 a1, pV b0 b1, .int .i64 k]) ([.ro 39 cs, .ro 39 rs])) [(15, .call (.mk (.int .i64 e) [.ro 39 cs, .ro 39 rs] [])), (7, .dec true)] = some (.mk (.tuple #[.bool false, .int .i64 e]) [.ro 39 cs, .ro 39 rs] [], true, [type_of% kC, (!decide (e = 0)) = true]) := by kernel_rfl
theorem rlanes_bb_pft : go (exec (Try.prog) (8) (24) ([fV (slB 0 n n) fl ce (slB 1 m m), pV a0 a1, pV b0 b1, .int .i64 k]) ([.ro 39 cs, .ro 39 rs])) [(15, .call (.mk (.int .i64 e) [.ro 39 cs, .ro 39 rs] [])), (7, .dec false), (2, .call (.mk (.bool !X.outP (X.S23.mk a0 a1)) [] [])), (4, .dec true), (0, .dec true), (0, .dec true), (0, .dec true)] = some (.mk (.tuple #[.bool false, .int .i64 5]) [.ro 39 cs, .ro 39 rs] [], true, [type_of% kC, (!decide (e = 0)) = false, CallSpec Try.prog 49 [(a2 a0 a1)] [] (.mk (.bool !X.outP (X.S23.mk a0 a1)) [] []), (!!X.outP (X.S23.mk a0 a1)) = true, (!!X.outP (X.S23.mk a0 a1)) = true, (!!X.outP (X.S23.mk a0 a1)) = true, (!!X.outP (X.S23.mk a0 a1)) = true]) := by kernel_rfl
theorem rlanes_bb_pfft : go (exec (Try.prog) (8) (24) ([fV (slB 0 n n) fl ce (slB 1 m m), pV a0 a1, pV b0 b1, .int .i64 k]) ([.ro 39 cs, .ro 39 rs])) [(15, .call (.mk (.int .i64 e) [.ro 39 cs, .ro 39 rs] [])), (7, .dec false), (2, .call (.mk (.bool !X.outP (X.S23.mk a0 a1)) [] [])), (4, .dec false), (2, .dec false), (0, .call (.mk (.bool !X.outP (X.S23.mk b0 b1)) [] [])), (2, .dec false), (1, .dec false), (2, .dec true)] = some (.mk (.tuple #[.bool false, .int .i64 5]) [.ro 39 cs, .ro 39 rs] [], true, [type_of% kC, (!decide (e = 0)) = false, CallSpec Try.prog 49 [(a2 a0 a1)] [] (.mk (.bool !X.outP (X.S23.mk a0 a1)) [] []), (!!X.outP (X.S23.mk a0 a1)) = false, (!!X.outP (X.S23.mk a0 a1)) = false, CallSpec Try.prog 49 [(a2 b0 b1)] [] (.mk (.bool !X.outP (X.S23.mk b0 b1)) [] []), (!!X.outP (X.S23.mk a0 a1)) = false, (!!X.outP (X.S23.mk a0 a1)) = false, (!!X.outP (X.S23.mk b0 b1)) = true]) := by kernel_rfl
theorem rlanes_bb_pffft : go (exec (Try.prog) (8) (24) ([fV (slB 0 n n) fl ce (slB 1 m m), pV a0 a1, pV b0 b1, .int .i64 k]) ([.ro 39 cs, .ro 39 rs])) [(15, .call (.mk (.int .i64 e) [.ro 39 cs, .ro 39 rs] [])), (7, .dec false), (2, .call (.mk (.bool !X.outP (X.S23.mk a0 a1)) [] [])), (4, .dec false), (2, .dec false), (0, .call (.mk (.bool !X.outP (X.S23.mk b0 b1)) [] [])), (2, .dec false), (1, .dec false), (2, .dec false), (3, .dec true)] = some (.mk (.tuple #[.bool false, .int .i64 1]) [.ro 39 cs, .ro 39 rs] [], true, [type_of% kC, (!decide (e = 0)) = false, CallSpec Try.prog 49 [(a2 a0 a1)] [] (.mk (.bool !X.outP (X.S23.mk a0 a1)) [] []), (!!X.outP (X.S23.mk a0 a1)) = false, (!!X.outP (X.S23.mk a0 a1)) = false, CallSpec Try.prog 49 [(a2 b0 b1)] [] (.mk (.bool !X.outP (X.S23.mk b0 b1)) [] []), (!!X.outP (X.S23.mk a0 a1)) = false, (!!X.outP (X.S23.mk a0 a1)) = false, (!!X.outP (X.S23.mk b0 b1)) = false, decide (k < 0) = true]) := by kernel_rfl
theorem rlanes_bb_pffff : go (exec (Try.prog) (8) (24) ([fV (slB 0 n n) fl ce (slB 1 m m), pV a0 a1, pV b0 b1, .int .i64 k]) ([.ro 39 cs, .ro 39 rs])) [(15, .call (.mk (.int .i64 e) [.ro 39 cs, .ro 39 rs] [])), (7, .dec false), (2, .call (.mk (.bool !X.outP (X.S23.mk a0 a1)) [] [])), (4, .dec false), (2, .dec false), (0, .call (.mk (.bool !X.outP (X.S23.mk b0 b1)) [] [])), (2, .dec false), (1, .dec false), (2, .dec false), (3, .dec false), (8, .call (.mk (.bool w) [.ro 39 cs] []))] = some (.mk (.tuple #[.bool w, .int .i64 0]) [.ro 39 cs, .ro 39 rs] [], true, [type_of% kC, (!decide (e = 0)) = false, CallSpec Try.prog 49 [(a2 a0 a1)] [] (.mk (.bool !X.outP (X.S23.mk a0 a1)) [] []), (!!X.outP (X.S23.mk a0 a1)) = false, (!!X.outP (X.S23.mk a0 a1)) = false, CallSpec Try.prog 49 [(a2 b0 b1)] [] (.mk (.bool !X.outP (X.S23.mk b0 b1)) [] []), (!!X.outP (X.S23.mk a0 a1)) = false, (!!X.outP (X.S23.mk a0 a1)) = false, (!!X.outP (X.S23.mk b0 b1)) = false, decide (k < 0) = false, CallSpec Try.prog 57 [(sB 0 n n), (a2 a0 a1), (a2 b0 b1), .int .i64 k] [.ro 39 cs] (.mk (.bool w) [.ro 39 cs] [])]) := by kernel_rfl
theorem rlanes_bb (R : Res) (k_pt : (h0 : ¬e = 0) → Res.le (.mk (.tuple #[.bool false, .int .i64 e]) [.ro 39 cs, .ro 39 rs] []) R) (k_pft : (h0 : ¬ (¬e = 0)) → (h1 : (!!X.outP (X.S23.mk a0 a1)) = true) → Res.le (.mk (.tuple #[.bool false, .int .i64 5]) [.ro 39 cs, .ro 39 rs] []) R) (k_pfft : (h0 : ¬ (¬e = 0)) → (h1 : ¬ ((!!X.outP (X.S23.mk a0 a1)) = true)) → (h2 : (!!X.outP (X.S23.mk b0 b1)) = true) → Res.le (.mk (.tuple #[.bool false, .int .i64 5]) [.ro 39 cs, .ro 39 rs] []) R) (k_pffft : (h0 : ¬ (¬e = 0)) → (h1 : ¬ ((!!X.outP (X.S23.mk a0 a1)) = true)) → (h2 : ¬ ((!!X.outP (X.S23.mk b0 b1)) = true)) → (h3 : k < 0) → Res.le (.mk (.tuple #[.bool false, .int .i64 1]) [.ro 39 cs, .ro 39 rs] []) R) (k_pffff : (h0 : ¬ (¬e = 0)) → (h1 : ¬ ((!!X.outP (X.S23.mk a0 a1)) = true)) → (h2 : ¬ ((!!X.outP (X.S23.mk b0 b1)) = true)) → (h3 : ¬ (k < 0)) → Res.le (.mk (.tuple #[.bool w, .int .i64 0]) [.ro 39 cs, .ro 39 rs] []) R) : CallSpec (Try.prog) (24) ([fV (slB 0 n n) fl ce (slB 1 m m), pV a0 a1, pV b0 b1, .int .i64 k]) ([.ro 39 cs, .ro 39 rs]) R := by
  by_cases h0 : ¬e = 0
  · exact (CallSpec.id (go_ok (exec_ok tnamed tcalm tmixed _ _ _ _) (rlanes_bb_pt n cs m rs fl ce e a0 a1 b0 b1 k kC w kL ) (aC (kC) (aC ((by simpa using h0)) aN)))).le (k_pt h0)
  · by_cases h1 : (!!X.outP (X.S23.mk a0 a1)) = true
    · exact (CallSpec.id (go_ok (exec_ok tnamed tcalm tmixed _ _ _ _) (rlanes_bb_pft n cs m rs fl ce e a0 a1 b0 b1 k kC w kL ) (aC (kC) (aC ((by simpa using h0)) (aC ((fits_done _ _)) (aC (h1) (aC (h1) (aC (h1) (aC (h1) aN))))))))).le (k_pft h0 h1)
    · by_cases h2 : (!!X.outP (X.S23.mk b0 b1)) = true
      · exact (CallSpec.id (go_ok (exec_ok tnamed tcalm tmixed _ _ _ _) (rlanes_bb_pfft n cs m rs fl ce e a0 a1 b0 b1 k kC w kL ) (aC (kC) (aC ((by simpa using h0)) (aC ((fits_done _ _)) (aC ((bF h1)) (aC ((bF h1)) (aC ((fits_done _ _)) (aC ((bF h1)) (aC ((bF h1)) (aC (h2) aN))))))))))).le (k_pfft h0 h1 h2)
      · by_cases h3 : k < 0
        · exact (CallSpec.id (go_ok (exec_ok tnamed tcalm tmixed _ _ _ _) (rlanes_bb_pffft n cs m rs fl ce e a0 a1 b0 b1 k kC w kL ) (aC (kC) (aC ((by simpa using h0)) (aC ((fits_done _ _)) (aC ((bF h1)) (aC ((bF h1)) (aC ((fits_done _ _)) (aC ((bF h1)) (aC ((bF h1)) (aC ((bF h2)) (aC (dT h3) aN)))))))))))).le (k_pffft h0 h1 h2 h3)
        · exact (CallSpec.id (go_ok (exec_ok tnamed tcalm tmixed _ _ _ _) (rlanes_bb_pffff n cs m rs fl ce e a0 a1 b0 b1 k kC w kL ) (aC (kC) (aC ((by simpa using h0)) (aC ((fits_done _ _)) (aC ((bF h1)) (aC ((bF h1)) (aC ((fits_done _ _)) (aC ((bF h1)) (aC ((bF h1)) (aC ((bF h2)) (aC (dF h3) (aC ((kL (by omega) (by simpa using h1) (by simpa using h2) (by omega))) aN))))))))))))).le (k_pffff h0 h1 h2 h3)
end
end Go.Proofs.Ytjalkjeldlchoaa.Ex
end
section
set_option linter.unusedSectionVars false
set_option linter.unusedSimpArgs false
set_option linter.unusedVariables false
namespace Go.Proofs.Ytjalkjeldlchoaa.X
open Go Go.RowKit
theorem inQ_out {x y : Int} : (inQ x && inQ y) = !outP ⟨x, y⟩ := by
  rw [Bool.eq_iff_iff, Bool.and_eq_true, inQ_iff, inQ_iff, Bool.not_eq_true', outP_eq]
theorem quad_out {a0 a1 b0 b1 : Int} : quad a0 a1 b0 b1 = (!outP ⟨a0, a1⟩ && !outP ⟨b0, b1⟩) := by unfold quad; rw [inQ_out, inQ_out]
end Go.Proofs.Ytjalkjeldlchoaa.X
namespace Go.Proofs.Ytjalkjeldlchoaa.Ex
open Go Go.RowKit Go.Proofs.Ytjalkjeldlchoaa.X
set_option linter.unusedVariables false
section
variable {l r : List S23} {fl ce a0 a1 b0 b1 k : Int}
theorem rl_ways (hp : Hp) : let R : Res := ⟨.tuple #[.bool (LaneB l r fl ce a0 a1 b0 b1 k), .int .i64 (LaneE l r fl ce a0 a1 b0 b1 k)], hp, []⟩; let e := checkV l r fl ce; let w := laneV l a0 a1 b0 b1 k
    ((h0 : ¬e = 0) → Res.le ⟨.tuple #[.bool false, .int .i64 e], hp, []⟩ R) ∧ ((h0 : ¬ (¬e = 0)) → (h1 : (!!outP ⟨a0, a1⟩) = true) → Res.le ⟨.tuple #[.bool false, .int .i64 5], hp, []⟩ R) ∧
    ((h0 : ¬ (¬e = 0)) → (h1 : ¬ ((!!outP ⟨a0, a1⟩) = true)) → (h2 : (!!outP ⟨b0, b1⟩) = true) → Res.le ⟨.tuple #[.bool false, .int .i64 5], hp, []⟩ R) ∧
    ((h0 : ¬ (¬e = 0)) → (h1 : ¬ ((!!outP ⟨a0, a1⟩) = true)) → (h2 : ¬ ((!!outP ⟨b0, b1⟩) = true)) → (h3 : k < 0) → Res.le ⟨.tuple #[.bool false, .int .i64 1], hp, []⟩ R) ∧
    ((h0 : ¬ (¬e = 0)) → (h1 : ¬ ((!!outP ⟨a0, a1⟩) = true)) → (h2 : ¬ ((!!outP ⟨b0, b1⟩) = true)) → (h3 : ¬ (k < 0)) → Res.le ⟨.tuple #[.bool w, .int .i64 0], hp, []⟩ R) := by
  intro R e w
  have q1 : (!!outP ⟨a0, a1⟩) = true → quad a0 a1 b0 b1 = false := fun h => by rw [quad_out]; simp at h; simp [h]
  have q2 : (!!outP ⟨b0, b1⟩) = true → quad a0 a1 b0 b1 = false := fun h => by rw [quad_out]; simp at h; simp [h]
  have q3 : ¬ ((!!outP ⟨a0, a1⟩) = true) → ¬ ((!!outP ⟨b0, b1⟩) = true) → quad a0 a1 b0 b1 = true := fun h g => by rw [quad_out]; simp at h g; simp [h, g]
  have e5 : ¬ (¬checkV l r fl ce = 0) → quad a0 a1 b0 b1 = false → LaneE l r fl ce a0 a1 b0 b1 k = 5 := fun h q => by unfold LaneE; rw [if_pos (by omega), if_neg (by rw [q]; exact Bool.false_ne_true)]
  have e1 : ¬ (¬checkV l r fl ce = 0) → quad a0 a1 b0 b1 = true → k < 0 → LaneE l r fl ce a0 a1 b0 b1 k = 1 := fun h q t => by unfold LaneE; rw [if_pos (by omega), if_pos q, if_pos t]
  have e0 : ¬ (¬checkV l r fl ce = 0) → quad a0 a1 b0 b1 = true → ¬ k < 0 → LaneE l r fl ce a0 a1 b0 b1 k = 0 := fun h q t => by unfold LaneE; rw [if_pos (by omega), if_pos q, if_neg t]
  refine ⟨fun h => ?_, fun h g => ?_, fun h g t => ?_, fun h g t p => ?_, fun h g t p => ?_⟩
  all_goals show Res.le _ ⟨.tuple #[.bool (LaneB l r fl ce a0 a1 b0 b1 k), .int .i64 (LaneE l r fl ce a0 a1 b0 b1 k)], hp, []⟩
  all_goals unfold LaneB
  · have e : LaneE l r fl ce a0 a1 b0 b1 k = checkV l r fl ce := by unfold LaneE; rw [if_neg h]
    rw [e, decide_eq_false h, Bool.false_and]
    exact res_refl
  · rw [e5 h (q1 g)]; exact res_refl
  · rw [e5 h (q2 t)]; exact res_refl
  · rw [e1 h (q3 g t) p]; exact res_refl
  · rw [e0 h (q3 g t) p]; exact res_refl
end
theorem rlanes_done (P R : Pk) (fl ce a0 a1 b0 b1 k : Int) : CallSpec Try.prog 24 [fA P R fl ce, pV a0 a1, pV b0 b1, .int .i64 k] (fH P R) ⟨.tuple #[.bool (LaneB P.list R.list fl ce a0 a1 b0 b1 k), .int .i64 (LaneE P.list R.list fl ce a0 a1 b0 b1 k)], fH P R, []⟩ := by
  have kC := rcheck_done P R fl ce
  obtain ⟨k1, k2, k3, k4, k5⟩ := rl_ways (l := P.list) (r := R.list) (fl := fl) (ce := ce) (a0 := a0) (a1 := a1) (b0 := b0) (b1 := b1) (k := k) (fH P R)
  have n0 : ∀ r, checkV [] r fl ce ≠ 0 := fun r h => by
    have : (90 : Int) = 0 := h
    omega
  cases P with
  | nil =>
    cases R with
    | nil => exact rlanes_nn _ _ _ _ _ _ _ _ (n0 _) kC _ (k1 (n0 _))
    | emp => exact rlanes_nd _ _ _ _ _ _ _ _ (n0 _) kC _ (k1 (n0 _))
    | pts r => exact rlanes_nb _ _ _ _ _ _ _ _ _ _ (n0 _) kC _ (k1 (n0 _))
  | emp =>
    cases R with
    | nil => exact rlanes_dn _ _ _ _ _ _ _ _ (n0 _) kC _ (k1 (n0 _))
    | emp => exact rlanes_dd _ _ _ _ _ _ _ _ (n0 _) kC _ (k1 (n0 _))
    | pts r => exact rlanes_db _ _ _ _ _ _ _ _ _ _ (n0 _) kC _ (k1 (n0 _))
  | pts l =>
    have kL : ∀ r, checkV l r fl ce = 0 → outP ⟨a0, a1⟩ = false → outP ⟨b0, b1⟩ = false → 0 ≤ k → CallSpec Try.prog 57 [slB 0 l.length l.length, pV a0 a1, pV b0 b1, .int .i64 k] [.ro 39 (pc l)] ⟨.bool (laneV l a0 a1 b0 b1 k), [.ro 39 (pc l)], []⟩ := fun r h g p q => rlane_done (checkV_zero h).1 (by rw [quad_out, g, p]; rfl) q
    cases R with
    | nil => exact rlanes_bn _ _ _ _ _ _ _ _ _ _ kC _ (kL []) _ k1 k2 k3 k4 k5
    | emp => exact rlanes_bd _ _ _ _ _ _ _ _ _ _ kC _ (kL []) _ k1 k2 k3 k4 k5
    | pts r => exact rlanes_bb _ _ _ _ _ _ _ _ _ _ _ _ kC _ (kL r) _ k1 k2 k3 k4 k5
end Go.Proofs.Ytjalkjeldlchoaa.Ex
end
section
set_option linter.unusedSectionVars false
set_option linter.unusedSimpArgs false
set_option linter.unusedVariables false
namespace Go.Proofs.Ytjalkjeldlchoaa.Ex
open Go Go.RowKit Go.Proofs.Ytjalkjeldlchoaa.X
set_option linter.unusedVariables false
theorem held {l r : List S23} {fl ce x0 x1 y0 y1 z0 z1 : Int} (h : holdB l r fl ce x0 x1 y0 y1 z0 z1 = true) : checkV l r fl ce = 0 ∧ simpleV l = 0 ∧ holdE l r fl ce x0 x1 y0 y1 z0 z1 = 0 ∧ (x0 ≤ x1 ∧ y0 ≤ y1 ∧ z0 ≤ z1) ∧ (fl ≤ z0 ∧ z1 ≤ ce) ∧ withinV l x0 x1 y0 y1 = true := by
  unfold holdB at h
  simp only [Bool.and_eq_true, decide_eq_true_eq] at h
  obtain ⟨hE, hz0, hz1, hw⟩ := h
  have hc : checkV l r fl ce = 0 := by
    by_cases c : checkV l r fl ce = 0
    · exact c
    · exfalso
      rw [holdE, if_neg c] at hE
      exact c hE
  have hu : ¬ (x0 > x1 ∨ y0 > y1 ∨ z0 > z1) := fun hu => by
    rw [holdE, if_pos hc, upV, if_pos (by simpa using hu)] at hE
    cases hE
  exact ⟨hc, (checkV_zero hc).1, hE, by omega, by omega, hw⟩
theorem not_held {l r : List S23} {fl ce x0 x1 y0 y1 z0 z1 : Int} (h : ¬ holdE l r fl ce x0 x1 y0 y1 z0 z1 = 0) : holdB l r fl ce x0 x1 y0 y1 z0 z1 = false := by
  unfold holdB
  rw [decide_eq_false h]
  rfl
theorem side_in {l : List S23} {x0 x1 y0 y1 p q : Int} (hl : simpleV l = 0) (h : withinV l x0 x1 y0 y1 = true) (hp : InR p q x0 x1 y0 y1) : sideA l p q = 1 ∧ sideE l p q = 0 := by
  obtain ⟨hx, hy, _, _⟩ := (withinV_iff hl).1 h
  unfold InR at hp
  unfold InB at hx hy
  have ho : outP ⟨p, q⟩ = false := by
    unfold outP
    simp
    omega
  refine ⟨?_, ?_⟩
  · rw [sideA_ok hl, if_neg (by rw [ho]; simp)]
    exact within_point hl h hp
  · rw [sideE_ok hl, if_neg (by rw [ho]; simp)]
theorem side_own {l : List S23} {p q : Int} (hm : l.length ≤ 9223372036854775807) : CallSpec Try.prog 34 [lentV 0 l.length, pV p q] [lentB l] ⟨.tuple #[.int .i64 (sideA l p q), .int .i64 (sideE l p q)], [lentB l], []⟩ :=
  CallSpec.wide (hp' := [lentB l]) (gside_done l (l.length + 1) p q hm) rfl rfl (wide_cons wide_own (wide_same []))
theorem not_simple_nil : simpleV [] ≠ 0 := by decide
end Go.Proofs.Ytjalkjeldlchoaa.Ex
end
