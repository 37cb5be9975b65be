import Derived.Test.YtjalkjeldlchoaaZFnc3
section
set_option linter.unusedSectionVars false
set_option linter.unusedSimpArgs false
set_option linter.unusedVariables false
namespace Go.Proofs.Ytjalkjeldlchoaa.Ex
open Go Go.RowKit Go.Proofs.Ytjalkjeldlchoaa.X
set_option linter.unusedVariables false
theorem any_rounds {P : Program} {m0 : Nat} {c : Code} {fr : Int → Fr} {hp : Hp} {rt ex : Out} {f : Nat → Bool} {n lo : Nat} (hrt : rt.ex ≠ .normal) (hex : ex.ex ≠ .normal)
    (ht : ∀ i : Nat, lo ≤ i → i < n → f i = true → CodeSpec P m0 c (fr i) hp rt) (hf : ∀ i : Nat, lo ≤ i → i < n → f i = false → CodeSpec P m0 c (fr i) hp ⟨.normal, fr ((i + 1 : Nat) : Int), hp, []⟩) (he : CodeSpec P m0 c (fr n) hp ex) :
    ∀ (m i : Nat), lo ≤ i → i + m = n → (anyF f n m = true → LoopSpec P m0 c (fr i) hp rt) ∧ (anyF f n m = false → LoopSpec P m0 c (fr i) hp ex)
  | 0, i, hl, hi => by
    obtain rfl : i = n := by omega
    exact ⟨fun h => (by cases h), fun _ => .last he hex⟩
  | m + 1, i, hl, hi => by
    have ih := any_rounds hrt hex ht hf he m (i + 1) (by omega) (by omega)
    rw [anyF, show n - (m + 1) = i by omega]
    cases hc : f i with
    | true => exact ⟨fun _ => .last (ht i hl (by omega) hc) hrt, fun h => by simp at h⟩
    | false =>
      rw [Bool.false_or]
      exact ⟨fun h => .more (hf i hl (by omega) hc) rfl (ih.1 h) (fun j hj => by cases hj), fun h => .more (hf i hl (by omega) hc) rfl (ih.2 h) (fun j hj => by cases hj)⟩
theorem bne_true {b : Bool} (h : ¬ (b = true)) : b = false := Bool.eq_false_iff.2 h
theorem next_done {l : List S23} {c i : Nat} (hi : i < l.length) (hn : l.length ≤ 64) : CallSpec Try.prog 72 [sl0 l.length c, .int .i64 (i : Int)] [.ro 39 (pc l)] ⟨pV (nx l (i + 1)).f0 (nx l (i + 1)).f1, [.ro 39 (pc l)], []⟩ :=
  next_ok l.length c (pc l) i _ _ (by omega) hn (pc_len l) (mod_in _ (by omega)) (nx_of (i := i + 1) (by omega) _ rfl) _ ⟨rfl, rfl, fun j hj => hj⟩
theorem rtang_done {l : List S23} {c i j : Nat} (hi : i < j) (hj : j < l.length) (hn : l.length ≤ 64) : CallSpec Try.prog 73 [sl0 l.length c, .int .i64 (i : Int), .int .i64 (j : Int)] [.ro 39 (pc l)] ⟨.bool (refPair l i j), [.ro 39 (pc l)], []⟩ := by
  refine rtang_ok l.length c (pc l) i j _ _ _ _ _ _ _ _ (by omega) hn (pc_len l) (ptAt_of (by omega)) (ptAt_of hj) (next_done (by omega) hn) (next_done hj hn) _ (fun h g => res_b ?_) (fun h g => res_b ?_) (fun h g k p => res_b ?_) (fun h g k p => res_b ?_) (fun h g k => res_b ?_) (fun h g => res_b ?_)
  all_goals unfold refPair onS
  · rw [if_pos (by omega), g]; rfl
  · rw [if_pos (by omega), bne_true g, Bool.false_or]
  · rw [if_neg (by omega), if_pos (by omega), p]; rfl
  · rw [if_neg (by omega), if_pos (by omega), bne_true p, Bool.false_or]
  · rw [if_neg (by omega), if_neg (by omega)]
  · rw [if_neg (by omega), if_neg (by omega)]
section
variable {l : List S23} {c : Nat} (hn : l.length ≤ 64)
include hn
theorem rs0_told : (anyF (fun i => outP (pt l i)) l.length l.length = true → CodeSpec Try.prog 1 rs_l0C (frS0 l.length c 0) [.ro 39 (pc l)] ⟨.ret, frSR 5, [.ro 39 (pc l)], []⟩) ∧
    (anyF (fun i => outP (pt l i)) l.length l.length = false → CodeSpec Try.prog 1 rs_l0C (frS0 l.length c 0) [.ro 39 (pc l)] ⟨.exit 0, frS0 l.length c l.length, [.ro 39 (pc l)], []⟩) := by
  have h := any_rounds (P := Try.prog) (m0 := 1) (c := rs_l0) (fr := frS0 l.length c) (hp := [.ro 39 (pc l)]) (rt := ⟨.ret, frSR 5, [.ro 39 (pc l)], []⟩) (ex := ⟨.exit 0, frS0 l.length c l.length, [.ro 39 (pc l)], []⟩) (f := fun i => outP (pt l i)) (n := l.length) (lo := 0) (by intro h; cases h) (by intro h; cases h)
    (fun i _ hi hf => rs0_ok l.length c (pc l) i _ _ (by omega) hn (pc_len l) (fun _ => ptAt_of hi) _ (fun _ _ => out_eq) (fun _ h => absurd (by rw [Bool.not_not]; exact hf) h) (fun h => absurd (by omega) h))
    (fun i _ hi hf => rs0_ok l.length c (pc l) i _ _ (by omega) hn (pc_len l) (fun _ => ptAt_of hi) _ (fun _ h => by rw [Bool.not_not] at h; exact absurd (hf.symm.trans h) Bool.false_ne_true) (fun _ _ => out_eq) (fun h => absurd (by omega) h))
    (rs0_ok l.length c (pc l) l.length 0 0 (by omega) hn (pc_len l) (fun h => by omega) _ (fun h => by omega) (fun h => by omega) (fun _ => out_eq)) l.length 0 (by omega) (by omega)
  exact ⟨fun g => (h.1 g).code, fun g => (h.2 g).code⟩
theorem rs1_told : (anyF (fun i => twin (pt l i, nx l (i + 1))) l.length l.length = true → CodeSpec Try.prog 1 rs_l1C (frS1 l.length c 0) [.ro 39 (pc l)] ⟨.ret, frSR 91, [.ro 39 (pc l)], []⟩) ∧
    (anyF (fun i => twin (pt l i, nx l (i + 1))) l.length l.length = false → CodeSpec Try.prog 1 rs_l1C (frS1 l.length c 0) [.ro 39 (pc l)] ⟨.exit 2, frS1 l.length c l.length, [.ro 39 (pc l)], []⟩) := by
  have e : ∀ a b : S23, (decide (a.f0 = b.f0) && (decide (a.f1 = b.f1) && true)) = twin (a, b) := fun a b => by
    rw [Bool.and_true]
    rfl
  have h := any_rounds (P := Try.prog) (m0 := 1) (c := rs_l1) (fr := frS1 l.length c) (hp := [.ro 39 (pc l)]) (rt := ⟨.ret, frSR 91, [.ro 39 (pc l)], []⟩) (ex := ⟨.exit 2, frS1 l.length c l.length, [.ro 39 (pc l)], []⟩) (f := fun i => twin (pt l i, nx l (i + 1))) (n := l.length) (lo := 0) (by intro h; cases h) (by intro h; cases h)
    (fun i _ hi hf => rs1_ok l.length c (pc l) i _ _ _ _ (by omega) hn (pc_len l) (fun _ => ptAt_of hi) (fun _ => next_done hi hn) _ (fun _ _ => out_eq) (fun _ h => absurd (by rw [e]; exact hf) h) (fun h => absurd (by omega) h))
    (fun i _ hi hf => rs1_ok l.length c (pc l) i _ _ _ _ (by omega) hn (pc_len l) (fun _ => ptAt_of hi) (fun _ => next_done hi hn) _ (fun _ h => by rw [e] at h; exact absurd (hf.symm.trans h) Bool.false_ne_true) (fun _ _ => out_eq) (fun h => absurd (by omega) h))
    (rs1_ok l.length c (pc l) l.length 0 0 0 0 (by omega) hn (pc_len l) (fun h => by omega) (fun h => by omega) _ (fun h => by omega) (fun h => by omega) (fun _ => out_eq)) l.length 0 (by omega) (by omega)
  exact ⟨fun g => (h.1 g).code, fun g => (h.2 g).code⟩
theorem rs3_told {i : Nat} (hi : i < l.length) : (anyF (refPair l i) l.length (l.length - (i + 1)) = true → CodeSpec Try.prog 1 rs_l3C (frS3 l.length c i ((i : Int) + 1)) [.ro 39 (pc l)] ⟨.ret, frSR 92, [.ro 39 (pc l)], []⟩) ∧
    (anyF (refPair l i) l.length (l.length - (i + 1)) = false → CodeSpec Try.prog 1 rs_l3C (frS3 l.length c i ((i : Int) + 1)) [.ro 39 (pc l)] ⟨.exit 6, frS3 l.length c i l.length, [.ro 39 (pc l)], []⟩) := by
  have h := any_rounds (P := Try.prog) (m0 := 1) (c := rs_l3) (fr := frS3 l.length c i) (hp := [.ro 39 (pc l)]) (rt := ⟨.ret, frSR 92, [.ro 39 (pc l)], []⟩) (ex := ⟨.exit 6, frS3 l.length c i l.length, [.ro 39 (pc l)], []⟩) (f := refPair l i) (n := l.length) (lo := i + 1) (by intro h; cases h) (by intro h; cases h)
    (fun j hl hj hf => rs3_ok l.length c (pc l) i j _ (by omega) hn (fun _ => rtang_done (by omega) hj hn) _ (fun _ _ => out_eq) (fun _ h => absurd hf h) (fun h => absurd (by omega) h))
    (fun j hl hj hf => rs3_ok l.length c (pc l) i j _ (by omega) hn (fun _ => rtang_done (by omega) hj hn) _ (fun _ h => absurd (hf.symm.trans h) Bool.false_ne_true) (fun _ _ => out_eq) (fun h => absurd (by omega) h))
    (rs3_ok l.length c (pc l) i l.length false (by omega) hn (fun h => by omega) _ (fun h => by omega) (fun h => by omega) (fun _ => out_eq)) (l.length - (i + 1)) (i + 1) (by omega) (by omega)
  exact ⟨fun g => (h.1 g).code, fun g => (h.2 g).code⟩
theorem rs2_told : (refTangled l = true → CodeSpec Try.prog 1 rs_l2C (frS2 l.length c 0) [.ro 39 (pc l)] ⟨.ret, frSR 92, [.ro 39 (pc l)], []⟩) ∧
    (refTangled l = false → CodeSpec Try.prog 1 rs_l2C (frS2 l.length c 0) [.ro 39 (pc l)] ⟨.exit 4, frS2 l.length c l.length, [.ro 39 (pc l)], []⟩) := by
  have h := any_rounds (P := Try.prog) (m0 := 1) (c := rs_l2) (fr := frS2 l.length c) (hp := [.ro 39 (pc l)]) (rt := ⟨.ret, frSR 92, [.ro 39 (pc l)], []⟩) (ex := ⟨.exit 4, frS2 l.length c l.length, [.ro 39 (pc l)], []⟩) (f := fun i => anyF (refPair l i) l.length (l.length - (i + 1))) (n := l.length) (lo := 0) (by intro h; cases h) (by intro h; cases h)
    (fun i _ hi hf => rs2T_ok l.length c (pc l) i (by omega) hn ((rs3_told hn hi).1 hf) _ out_eq)
    (fun i _ hi hf => rs2F_ok l.length c (pc l) i (by omega) hn ((rs3_told hn hi).2 hf) _ out_eq)
    (rs2E_ok l.length c (pc l) hn _ out_eq) l.length 0 (by omega) (by omega)
  exact ⟨fun g => (h.1 g).code, fun g => (h.2 g).code⟩
end
theorem rsimple_done (l : List S23) (c : Nat) : CallSpec Try.prog 38 [sl0 l.length c] [.ro 39 (pc l)] ⟨.int .i64 (refV l), [.ro 39 (pc l)], []⟩ := by
  have rf : ∀ {r : Res}, Res.le r r := ⟨rfl, rfl, fun j hj => hj⟩
  unfold refV
  by_cases c1 : l.length < 3
  · rw [if_pos c1]; exact rs_few _ _ _ c1 _ rf
  by_cases c2 : 64 < l.length
  · rw [if_neg c1, if_pos c2]; exact rs_many _ _ _ c2 _ rf
  have hn : l.length ≤ 64 := by omega
  rw [if_neg c1, if_neg c2]
  by_cases c3 : anyF (fun i => outP (pt l i)) l.length l.length = true
  · rw [if_pos c3]; exact rs_5 _ _ _ ⟨by omega, hn⟩ ((rs0_told hn).1 c3) _ rf
  by_cases c4 : anyF (fun i => twin (pt l i, nx l (i + 1))) l.length l.length = true
  · rw [if_neg c3, if_pos c4]; exact rs_91 _ _ _ ⟨by omega, hn⟩ ((rs0_told hn).2 (bne_true c3)) ((rs1_told hn).1 c4) _ rf
  rw [if_neg c3, if_neg c4]
  by_cases c5 : refTangled l = true
  · rw [if_pos c5]; exact rs_92 _ _ _ ⟨by omega, hn⟩ ((rs0_told hn).2 (bne_true c3)) ((rs1_told hn).2 (bne_true c4)) ((rs2_told hn).1 c5) _ rf
  · rw [if_neg c5]; exact rs_0 _ _ _ ⟨by omega, hn⟩ ((rs0_told hn).2 (bne_true c3)) ((rs1_told hn).2 (bne_true c4)) ((rs2_told hn).2 (bne_true c5)) _ rf
end Go.Proofs.Ytjalkjeldlchoaa.Ex
end
section
set_option linter.unusedSectionVars false
set_option linter.unusedSimpArgs false
set_option linter.unusedVariables false
namespace Go.Proofs.Ytjalkjeldlchoaa.Ex
open Go Go.RowKit Go.Proofs.YtjalkjeldlchoaaW.PrintWords Go.Proofs.YtjalkjeldlchoaaW.PrintLast Go.Proofs.Ytjalkjeldlchoaa.X
set_option linter.unusedVariables false
set_option linter.unusedSimpArgs false
theorem cr_vr {P : Program} {ν : Nu} {e : TypeId} {l m : List Value} (h : L2 (CR P ν e) l m) : L2 (VR1 ν) l m := by
  induction h with
  | nil => exact .nil
  | cons h _ ih => exact .cons h.1 ih
theorem row_of {ν : Nu} {w : World} {hp : Hp} {l : List S23} {n c : Nat} {v' : Value} (hl : l.length = n) (hm : n ≤ 9223372036854775807) (hb : hp.getD 0 .dead = .ro 39 (pc l)) (hr : Rep Try.prog ν hp w) (hv : VR ν (sl0 n c) v') :
    ∃ A0 c0, v' = .slice A0 n c0 ∧ n ≤ c0 ∧ Kd.C k23 w A0 n l := by
  obtain ⟨a', cap', rfl, h1, h2, h3⟩ := hv
  refine ⟨_, cap', rfl, h2, hl, hm, fun hn => ⟨a', rfl, fun j p hj => ?_⟩⟩
  have hb0 := hr.blk 0
  rw [hb] at hb0
  obtain ⟨N, n1, n2, n3, cs', n4, n5⟩ := hb0
  obtain ⟨N', m1, _, rfl, _⟩ := h3 (by omega)
  change ν 0 = some N' at m1
  rw [n1] at m1
  cases m1
  have e : cs' = pc l := (flat_L2 (pc_flat l)).1 (cr_vr n4)
  subst e
  have hjl := (List.getElem?_eq_some_iff.1 hj).1
  have hp : pt l j = p := by
    obtain ⟨_, rfl⟩ := List.getElem?_eq_some_iff.1 hj
    simp [pt, rd_T23, hjl]
  obtain ⟨g0, g1⟩ := pc_get l j hjl
  rw [hp] at g0 g1
  refine ⟨[.int .i64 p.f0, .int .i64 p.f1], rfl, k23_mk _ _, fun i u hi => ?_⟩
  have ea : (N.at 0).add (j * 2 + i) = N.at (j * 2 + i) := by rw [at_add, Nat.zero_add]
  show w.cell? ((N.at 0).add (j * 2 + i)) = some u
  rw [ea]
  match i, hi with
  | 0, hi =>
    obtain rfl : Value.int .i64 p.f0 = u := by simpa using hi
    exact n5 _ _ g0
  | 1, hi =>
    obtain rfl : Value.int .i64 p.f1 = u := by simpa using hi
    exact n5 _ _ g1
  | i + 2, hi => simp at hi
theorem simple_f (k : Nat) (l : List S23) : geo_Simple.f k l = some (simpleV l) := by
  unfold geo_Simple.f simpleV
  by_cases c1 : l.length < 3
  · rw [if_pos c1, if_pos c1]
  by_cases c2 : 64 < l.length
  · rw [if_neg c1, if_neg c1, if_pos c2, if_pos c2]
  rw [if_neg c1, if_neg c1, if_neg c2, if_neg c2, geo_fits.f, if_pos (by omega), Option.bind_some]
  cases hf : l.any outP with
  | true => rfl
  | false =>
    simp only [Bool.not_false, if_true, Bool.false_eq_true, if_false]
    by_cases c4 : (upt l l.length).any twin = true
    · rw [if_pos c4, if_pos c4]
    · rw [if_neg c4, if_neg c4, geo_tangled.f, if_pos (by omega), Option.bind_some]
      cases tangledV l <;> rfl
theorem gsimple_done (l : List S23) (c : Nat) (hm : l.length ≤ 9223372036854775807) : CallSpec Try.prog 46 [sl0 l.length c] [.ro 39 (pc l)] ⟨.int .i64 (simpleV l), [.ro 39 (pc l)], []⟩ :=
  CallSpec.of_below rfl fun ν w args' ha hr => by
    cases ha with
    | cons hv ht =>
      cases ht
      obtain ⟨A0, c0, rfl, h1, h2⟩ := row_of rfl hm rfl hr hv
      exact geo_Simple.calls 0 A0 c0 l _ w h2 h1 (simple_f 0 l)
theorem row_nil (w : World) (A : Option Addr) : Kd.C k23 w A 0 [] := ⟨rfl, by omega, fun h => absurd h (Nat.lt_irrefl 0)⟩
theorem gsimple_nil : CallSpec Try.prog 46 [.slice none 0 0] [] ⟨.int .i64 90, [], []⟩ :=
  CallSpec.of_below rfl fun ν w args' ha hr => by
    cases ha with
    | cons hv ht =>
      cases ht
      cases hv
      exact geo_Simple.calls 0 none 0 [] 90 w (row_nil w none) (Nat.le_refl _) rfl
def sideA (l : List S23) (p q : Int) : Int := if simpleV l = 0 then (if outP ⟨p, q⟩ = true then 0 else sideV l p q) else 0
def sideE (l : List S23) (p q : Int) : Int := if simpleV l = 0 then (if outP ⟨p, q⟩ = true then 5 else 0) else simpleV l
theorem gside_done (l : List S23) (c : Nat) (p q : Int) (hm : l.length ≤ 9223372036854775807) : CallSpec Try.prog 34 [sl0 l.length c, pV p q] [.ro 39 (pc l)] ⟨.tuple #[.int .i64 (sideA l p q), .int .i64 (sideE l p q)], [.ro 39 (pc l)], []⟩ :=
  CallSpec.of_below rfl fun ν w args' ha hr => by
    cases ha with
    | cons hv ht =>
      cases ht with
      | cons hp ht =>
        cases ht
        obtain rfl := (flat_VR (v := pV p q) rfl _).1 hp
        obtain ⟨A0, c0, rfl, h1, h2⟩ := row_of rfl hm rfl hr hv
        have key : ∀ r1 r2 : Int, geo_Side.f 0 l p q = some (r1, r2) → Calls Try.prog 34 #[.slice A0 l.length c0, pV p q] w fun e w' => e = .returned (.tuple #[.int .i64 r1, .int .i64 r2]) ∧ Below w.heap.size w w' := fun r1 r2 h => geo_Side.calls 0 A0 c0 l p q r1 r2 w h2 h1 h
        refine key _ _ ?_
        unfold sideA sideE geo_Side.f
        rw [simple_f, Option.bind_some]
        by_cases c : simpleV l = 0
        · rw [if_pos c, if_pos c, if_pos c, geo_fits.f, if_pos (by simp)]
          simp only [Option.bind_some, List.any_cons, List.any_nil, Bool.or_false]
          cases ho : outP ⟨p, q⟩ <;> rfl
        · rw [if_neg c, if_neg c, if_neg c]
theorem gtouch_done (a0 a1 b0 b1 x0 x1 y0 y1 : Int) : CallSpec Try.prog 80 [pV a0 a1, pV b0 b1, pV x0 x1, pV y0 y1] [] ⟨.tuple #[.bool (touchV a0 a1 b0 b1 x0 x1 y0 y1).1, .int .i64 (touchV a0 a1 b0 b1 x0 x1 y0 y1).2], [], []⟩ :=
  CallSpec.of_below rfl fun ν w args' ha hr => by
    obtain rfl := flat_args (by rfl) ha
    exact geo_Touches.calls a0 a1 b0 b1 x0 x1 y0 y1 _ _ w rfl
theorem gfits_done (l : List S23) (c : Nat) (hm : l.length ≤ 1099511627776) : CallSpec Try.prog 68 [sl0 l.length c] [.ro 39 (pc l)] ⟨.bool (!(l.any outP)), [.ro 39 (pc l)], []⟩ :=
  CallSpec.of_below rfl fun ν w args' ha hr => by
    cases ha with
    | cons hv ht =>
      cases ht
      obtain ⟨A0, c0, rfl, h1, h2⟩ := row_of rfl (by omega) rfl hr hv
      exact geo_fits.calls A0 c0 l _ w h2 h1 (by rw [geo_fits.f, if_pos hm])
end Go.Proofs.Ytjalkjeldlchoaa.Ex
end
section
set_option linter.unusedSectionVars false
set_option linter.unusedSimpArgs false
set_option linter.unusedVariables false
namespace Go.Proofs.Ytjalkjeldlchoaa.X
open Go Go.RowKit
def limV (m : Nat) (fl ce : Int) : Int := if (inQ fl && inQ ce) = true then (if fl > 0 ∨ ce ≤ 0 then 100 else if m > 8 then 4 else 0) else 5
def rallyV (l : List S23) : List S23 → Int
  | [] => 0
  | p :: r => if outP ⟨p.f0, p.f1⟩ = true then 5 else if sideV l p.f0 p.f1 = 1 then rallyV l r else 101
def checkV (l r : List S23) (fl ce : Int) : Int := if simpleV l = 0 then (if limV r.length fl ce = 0 then rallyV l r else limV r.length fl ce) else simpleV l
theorem drop_pt {r : List S23} {j : Nat} (h : j < r.length) : r.drop j = pt r j :: r.drop (j + 1) := by
  rw [List.drop_eq_getElem_cons h]
  congr 1
  simp [pt, rd_T23, h]
theorem rallyV_step {l r : List S23} {j : Nat} (h : j < r.length) : rallyV l (r.drop j) = if outP ⟨(pt r j).f0, (pt r j).f1⟩ = true then 5 else if sideV l (pt r j).f0 (pt r j).f1 = 1 then rallyV l (r.drop (j + 1)) else 101 := by
  rw [drop_pt h, rallyV]
end Go.Proofs.Ytjalkjeldlchoaa.X
namespace Go.Proofs.Ytjalkjeldlchoaa.Ex
open Go Go.RowKit Go.Proofs.Ytjalkjeldlchoaa.X
set_option linter.unusedVariables false
theorem sideE_ok {l : List S23} {p q : Int} (hl : simpleV l = 0) : sideE l p q = if outP ⟨p, q⟩ = true then 5 else 0 := by rw [sideE, if_pos hl]
theorem sideA_ok {l : List S23} {p q : Int} (hl : simpleV l = 0) : sideA l p q = if outP ⟨p, q⟩ = true then 0 else sideV l p q := by rw [sideA, if_pos hl]
theorem res_refl {r : Res} : Res.le r r := ⟨rfl, rfl, fun j hj => hj⟩
theorem lim_bb_done (n c m d : Nat) (cs rs : List Value) (fl ce : Int) : CallSpec Try.prog 47 [fV (slB 0 n c) fl ce (slB 1 m d)] [.ro 39 cs, .ro 39 rs] ⟨.int .i64 (limV m fl ce), [.ro 39 cs, .ro 39 rs], []⟩ := by
  refine lim_bb _ _ _ _ _ _ _ _ _ (fun h => res_i ?_) (fun h g => res_i ?_) (fun h g k => res_i ?_) (fun h g k p => res_i ?_) (fun h g k p => res_i ?_)
  all_goals unfold limV
  all_goals simp only [Bool.not_eq_true', Bool.not_eq_false] at h
  · rw [if_neg (by rw [h]; exact Bool.false_ne_true)]
  · rw [if_pos h, if_pos (.inl g)]
  · rw [if_pos h, if_pos (.inr k)]
  · rw [if_pos h, if_neg (by omega), if_pos (by omega)]
  · rw [if_pos h, if_neg (by omega), if_neg (by omega)]
theorem chk_rounds {l r : List S23} {c d : Nat} {fl ce : Int} (hl : simpleV l = 0) (hm : r.length ≤ 8) : ∀ (k j : Nat), j + k = r.length →
    (rallyV l (r.drop j) ≠ 0 → LoopSpec Try.prog 2 chk_l (frC r.length d j) (hpC l.length c r.length d (pc l) (pc r) fl ce) ⟨.ret, frCR (rallyV l (r.drop j)), [.ro 39 (pc l), .ro 39 (pc r)], []⟩) ∧
    (rallyV l (r.drop j) = 0 → LoopSpec Try.prog 2 chk_l (frC r.length d j) (hpC l.length c r.length d (pc l) (pc r) fl ce) ⟨.exit 0, frC r.length d r.length, hpC l.length c r.length d (pc l) (pc r) fl ce, []⟩)
  | 0, j, hj => by
    obtain rfl : j = r.length := by omega
    rw [List.drop_length]
    refine ⟨fun h => absurd rfl h, fun _ => .last (chk_round l.length c r.length d (pc l) (pc r) fl ce r.length 0 0 0 0 (by omega) hm (pc_len r) (fun h => by omega) (fun h => by omega) _ (fun h => by omega) (fun h => by omega) (fun h => by omega) (fun _ => out_eq)) (by intro h; cases h)⟩
  | k + 1, j, hj => by
    have ih := chk_rounds (c := c) (d := d) (fl := fl) (ce := ce) hl hm k (j + 1) (by omega)
    have hlt : j < r.length := by omega
    have h64 := simpleV_zero hl
    have round := chk_round l.length c r.length d (pc l) (pc r) fl ce j _ _ _ _ (by omega) hm (pc_len r) (fun _ => ptAt_of hlt) (fun _ => gside_done l c (pt r j).f0 (pt r j).f1 (by omega))
    rw [sideE_ok hl, sideA_ok hl] at round
    rw [rallyV_step hlt]
    by_cases ho : outP ⟨(pt r j).f0, (pt r j).f1⟩ = true
    · simp only [if_pos ho] at round ⊢
      exact ⟨fun _ => .last (round _ (fun _ _ => out_eq) (fun _ h => absurd (by omega) h) (fun _ h => absurd (by omega) h) (fun h => absurd (by omega) h)) (by intro h; cases h), fun h => absurd h (by omega)⟩
    · simp only [if_neg ho] at round ⊢
      by_cases hs : sideV l (pt r j).f0 (pt r j).f1 = 1
      · simp only [if_pos hs]
        have go : ∀ o, LoopSpec Try.prog 2 chk_l (frC r.length d ((j + 1 : Nat) : Int)) (hpC l.length c r.length d (pc l) (pc r) fl ce) o → LoopSpec Try.prog 2 chk_l (frC r.length d j) (hpC l.length c r.length d (pc l) (pc r) fl ce) o := fun o h =>
          .more (o1 := ⟨.normal, frC r.length d ((j + 1 : Nat) : Int), hpC l.length c r.length d (pc l) (pc r) fl ce, []⟩) (round _ (fun _ h => absurd trivial h) (fun _ _ h => absurd hs h) (fun _ _ _ => out_eq) (fun h => absurd (by omega) h)) rfl h (fun j hj => by cases hj)
        exact ⟨fun h => go _ (ih.1 h), fun h => go _ (ih.2 h)⟩
      · simp only [if_neg hs]
        exact ⟨fun _ => .last (round _ (fun _ h => absurd trivial h) (fun _ _ _ => out_eq) (fun _ _ h => absurd hs h) (fun h => absurd (by omega) h)) (by intro h; cases h), fun h => absurd h (by omega)⟩
theorem limV_le {m : Nat} {fl ce : Int} (h : limV m fl ce = 0) : m ≤ 8 := by
  unfold limV at h
  repeat' split at h
  all_goals omega
theorem check_bb {l r : List S23} {c d : Nat} {fl ce : Int} (hm : l.length ≤ 9223372036854775807) : CallSpec Try.prog 18 [fV (slB 0 l.length c) fl ce (slB 1 r.length d)] [.ro 39 (pc l), .ro 39 (pc r)] ⟨.int .i64 (checkV l r fl ce), [.ro 39 (pc l), .ro 39 (pc r)], []⟩ := by
  have hs := gsimple_done l c hm
  have hL := lim_bb_done l.length c r.length d (pc l) (pc r) fl ce
  unfold checkV
  by_cases h1 : simpleV l = 0
  · rw [if_pos h1]
    rw [h1] at hs
    by_cases h2 : limV r.length fl ce = 0
    · rw [if_pos h2]
      rw [h2] at hL
      have h := chk_rounds (c := c) (d := d) (fl := fl) (ce := ce) h1 (limV_le h2) r.length 0 (by omega)
      rw [List.drop_zero] at h
      by_cases h3 : rallyV l r = 0
      · rw [h3]
        exact chk_F _ _ _ _ _ _ _ _ hs hL (h.2 h3).code _ res_refl
      · exact chk_T _ _ _ _ _ _ _ _ _ hs hL (h.1 h3).code _ res_refl
    · rw [if_neg h2]
      exact chk_l1 _ _ _ _ _ _ _ _ _ h2 hs hL _ res_refl
  · rw [if_neg h1]
    exact chk_e _ _ _ _ _ _ _ _ _ h1 hs _ res_refl
theorem check_nn (fl ce : Int) : CallSpec Try.prog 18 [fV (.slice none 0 0) fl ce (.slice none 0 0)] [] ⟨.int .i64 (checkV [] [] fl ce), [], []⟩ := chknn _ _ gsimple_nil _ res_refl
end Go.Proofs.Ytjalkjeldlchoaa.Ex
end
section
set_option linter.unusedSectionVars false
set_option linter.unusedSimpArgs false
set_option linter.unusedVariables false
namespace Go.Proofs.Ytjalkjeldlchoaa.Ex
open Go
set_option linter.unusedVariables false
noncomputable def wi_l : Code := loopAt Try.prog 53 0
theorem wi_l_calm : calmC wi_l = true := loopAt_calm tcalm 53 0
noncomputable def wi_lC : Code := .loop wi_l
def frW (n c : Nat) (i : Int) : Fr := frOf 52 [(3, at_ 1 0), (4, at_ 2 0), (5, at_ 3 0), (7, at_ 4 0), (8, .func (.func 79) #[] #[at_ 1 0, at_ 4 0, at_ 2 0, at_ 3 0]), (28, slB 0 n c), (29, .int .i64 n), (30, .int .i64 i)]
def frWR : Fr := frOf 52 [(6, .bool false)]
def keepW : Xt → List Nat
  | .ret => [6]
  | _ => [3, 4, 5, 7, 8, 28, 29, 30]
def hpW (n c : Nat) (cs : List Value) (x0 x1 y0 y1 : Int) : Hp := [.ro 39 cs, .own 22 [slB 0 n c], .own 32 [.int .i64 x0, .int .i64 x1], .own 32 [.int .i64 y0, .int .i64 y1], .own 3 [.int .i64 ((n : Int) - 1)]]
section
variable (n c : Nat) (cs : List Value) (i px py qx qy zx zy x0 x1 y0 y1 : Int) (hi : 0 ≤ i ∧ i ≤ (↑n : Int)) (hn : n ≤ 64) (hl : List.length cs = n * 2) (hA : i < (↑n : Int) → ptAt cs i px py) (hB : i < (↑n : Int) - 1 → ptAt cs (i + 1) qx qy) (hZ : i < (↑n : Int) → Value.agg (List.toArray (List.take 2 (List.drop 0 cs))) = (a2 zx zy))
include n c cs i px py qx qy zx zy x0 x1 y0 y1 hi hn hl hA hB hZ
theorem wi_round_pttt : go (body (Try.prog) (8) (1) (8) (keepW) (wi_l) (frW n c i) (hpW n c cs x0 x1 y0 y1)) [(2, .dec true), (1, Itm.must), (1, Itm.must), (0, Itm.val ((a2 px py))), (22, Itm.must), (1, Itm.must), (0, Itm.val ((a2 zx zy))), (14, .dec true), (3, Itm.val (.int .i64 (i + 1))), (0, Itm.must), (1, Itm.must), (0, Itm.val ((a2 qx qy))), (13, .call (.mk (.tuple #[.bool (X.touchV px py qx qy x0 x1 y0 y1).1, .int .i64 (X.touchV px py qx qy x0 x1 y0 y1).2]) [] [])), (15, .dec true)] = some (Out.mk Xt.ret (frOf 52 [(6, .bool false)]) [.ro 39 cs] [], true, [decide (i < (↑n : Int)) = true, inside i n = true, decide (0 + Int.toNat i * 2 + 2 ≤ List.length cs) = true, Value.agg (List.toArray (List.take 2 (List.drop (0 + Int.toNat i * 2) cs))) = (a2 px py), inside 0 n = true, decide (2 ≤ List.length cs) = true, Value.agg (List.toArray (List.take 2 (List.drop 0 cs))) = (a2 zx zy), decide (i < (↑n : Int) - 1) = true, Value.int .i64 (IntKind.wrap .i64 (i + 1)) = .int .i64 (i + 1), inside (i + 1) n = true, decide (0 + Int.toNat (i + 1) * 2 + 2 ≤ List.length cs) = true, Value.agg (List.toArray (List.take 2 (List.drop (0 + Int.toNat (i + 1) * 2) cs))) = (a2 qx qy), CallSpec Try.prog 80 [(a2 px py), (a2 qx qy), (a2 x0 x1), (a2 y0 y1)] [] (.mk (.tuple #[.bool (X.touchV px py qx qy x0 x1 y0 y1).1, .int .i64 (X.touchV px py qx qy x0 x1 y0 y1).2]) [] []), (X.touchV px py qx qy x0 x1 y0 y1).1 = true]) := by kernel_rfl
theorem wi_round_pttf : go (body (Try.prog) (8) (1) (8) (keepW) (wi_l) (frW n c i) (hpW n c cs x0 x1 y0 y1)) [(2, .dec true), (1, Itm.must), (1, Itm.must), (0, Itm.val ((a2 px py))), (22, Itm.must), (1, Itm.must), (0, Itm.val ((a2 zx zy))), (14, .dec true), (3, Itm.val (.int .i64 (i + 1))), (0, Itm.must), (1, Itm.must), (0, Itm.val ((a2 qx qy))), (13, .call (.mk (.tuple #[.bool (X.touchV px py qx qy x0 x1 y0 y1).1, .int .i64 (X.touchV px py qx qy x0 x1 y0 y1).2]) [] [])), (15, .dec false), (0, Itm.val (.int .i64 (i + 1)))] = some (Out.mk Xt.normal (frOf 52 [(3, (pA 1)), (4, (pA 2)), (5, (pA 3)), (7, (pA 4)), (8, Value.func (Fn.func 79) #[] #[(pA 1), (pA 4), (pA 2), (pA 3)]), (28, (sB 0 n c)), (29, .int .i64 (↑n : Int)), (30, .int .i64 (i + 1))]) [.ro 39 cs, .own 22 [(sB 0 n c)], .own 32 [.int .i64 x0, .int .i64 x1], .own 32 [.int .i64 y0, .int .i64 y1], .own 3 [.int .i64 ((↑n : Int) - 1)]] [], true, [decide (i < (↑n : Int)) = true, inside i n = true, decide (0 + Int.toNat i * 2 + 2 ≤ List.length cs) = true, Value.agg (List.toArray (List.take 2 (List.drop (0 + Int.toNat i * 2) cs))) = (a2 px py), inside 0 n = true, decide (2 ≤ List.length cs) = true, Value.agg (List.toArray (List.take 2 (List.drop 0 cs))) = (a2 zx zy), decide (i < (↑n : Int) - 1) = true, Value.int .i64 (IntKind.wrap .i64 (i + 1)) = .int .i64 (i + 1), inside (i + 1) n = true, decide (0 + Int.toNat (i + 1) * 2 + 2 ≤ List.length cs) = true, Value.agg (List.toArray (List.take 2 (List.drop (0 + Int.toNat (i + 1) * 2) cs))) = (a2 qx qy), CallSpec Try.prog 80 [(a2 px py), (a2 qx qy), (a2 x0 x1), (a2 y0 y1)] [] (.mk (.tuple #[.bool (X.touchV px py qx qy x0 x1 y0 y1).1, .int .i64 (X.touchV px py qx qy x0 x1 y0 y1).2]) [] []), (X.touchV px py qx qy x0 x1 y0 y1).1 = false, Value.int .i64 (IntKind.wrap .i64 (i + 1)) = .int .i64 (i + 1)]) := by kernel_rfl
theorem wi_round_ptft : go (body (Try.prog) (8) (1) (8) (keepW) (wi_l) (frW n c i) (hpW n c cs x0 x1 y0 y1)) [(2, .dec true), (1, Itm.must), (1, Itm.must), (0, Itm.val ((a2 px py))), (22, Itm.must), (1, Itm.must), (0, Itm.val ((a2 zx zy))), (14, .dec false), (8, .call (.mk (.tuple #[.bool (X.touchV px py zx zy x0 x1 y0 y1).1, .int .i64 (X.touchV px py zx zy x0 x1 y0 y1).2]) [] [])), (15, .dec true)] = some (Out.mk Xt.ret (frOf 52 [(6, .bool false)]) [.ro 39 cs] [], true, [decide (i < (↑n : Int)) = true, inside i n = true, decide (0 + Int.toNat i * 2 + 2 ≤ List.length cs) = true, Value.agg (List.toArray (List.take 2 (List.drop (0 + Int.toNat i * 2) cs))) = (a2 px py), inside 0 n = true, decide (2 ≤ List.length cs) = true, Value.agg (List.toArray (List.take 2 (List.drop 0 cs))) = (a2 zx zy), decide (i < (↑n : Int) - 1) = false, CallSpec Try.prog 80 [(a2 px py), (a2 zx zy), (a2 x0 x1), (a2 y0 y1)] [] (.mk (.tuple #[.bool (X.touchV px py zx zy x0 x1 y0 y1).1, .int .i64 (X.touchV px py zx zy x0 x1 y0 y1).2]) [] []), (X.touchV px py zx zy x0 x1 y0 y1).1 = true]) := by kernel_rfl
theorem wi_round_ptff : go (body (Try.prog) (8) (1) (8) (keepW) (wi_l) (frW n c i) (hpW n c cs x0 x1 y0 y1)) [(2, .dec true), (1, Itm.must), (1, Itm.must), (0, Itm.val ((a2 px py))), (22, Itm.must), (1, Itm.must), (0, Itm.val ((a2 zx zy))), (14, .dec false), (8, .call (.mk (.tuple #[.bool (X.touchV px py zx zy x0 x1 y0 y1).1, .int .i64 (X.touchV px py zx zy x0 x1 y0 y1).2]) [] [])), (15, .dec false), (0, Itm.val (.int .i64 (i + 1)))] = some (Out.mk Xt.normal (frOf 52 [(3, (pA 1)), (4, (pA 2)), (5, (pA 3)), (7, (pA 4)), (8, Value.func (Fn.func 79) #[] #[(pA 1), (pA 4), (pA 2), (pA 3)]), (28, (sB 0 n c)), (29, .int .i64 (↑n : Int)), (30, .int .i64 (i + 1))]) [.ro 39 cs, .own 22 [(sB 0 n c)], .own 32 [.int .i64 x0, .int .i64 x1], .own 32 [.int .i64 y0, .int .i64 y1], .own 3 [.int .i64 ((↑n : Int) - 1)]] [], true, [decide (i < (↑n : Int)) = true, inside i n = true, decide (0 + Int.toNat i * 2 + 2 ≤ List.length cs) = true, Value.agg (List.toArray (List.take 2 (List.drop (0 + Int.toNat i * 2) cs))) = (a2 px py), inside 0 n = true, decide (2 ≤ List.length cs) = true, Value.agg (List.toArray (List.take 2 (List.drop 0 cs))) = (a2 zx zy), decide (i < (↑n : Int) - 1) = false, CallSpec Try.prog 80 [(a2 px py), (a2 zx zy), (a2 x0 x1), (a2 y0 y1)] [] (.mk (.tuple #[.bool (X.touchV px py zx zy x0 x1 y0 y1).1, .int .i64 (X.touchV px py zx zy x0 x1 y0 y1).2]) [] []), (X.touchV px py zx zy x0 x1 y0 y1).1 = false, Value.int .i64 (IntKind.wrap .i64 (i + 1)) = .int .i64 (i + 1)]) := by kernel_rfl
theorem wi_round_pf : go (body (Try.prog) (8) (1) (8) (keepW) (wi_l) (frW n c i) (hpW n c cs x0 x1 y0 y1)) [(2, .dec false)] = some (Out.mk (Xt.exit 0) (frOf 52 [(3, (pA 1)), (4, (pA 2)), (5, (pA 3)), (7, (pA 4)), (8, Value.func (Fn.func 79) #[] #[(pA 1), (pA 4), (pA 2), (pA 3)]), (28, (sB 0 n c)), (29, .int .i64 (↑n : Int)), (30, .int .i64 i)]) [.ro 39 cs, .own 22 [(sB 0 n c)], .own 32 [.int .i64 x0, .int .i64 x1], .own 32 [.int .i64 y0, .int .i64 y1], .own 3 [.int .i64 ((↑n : Int) - 1)]] [], true, [decide (i < (↑n : Int)) = false]) := by kernel_rfl
theorem wi_round (R : Out) (k_pttt : (h0 : i < (↑n : Int)) → (h1 : i < (↑n : Int) - 1) → (h2 : (X.touchV px py qx qy x0 x1 y0 y1).1 = true) → Out.le (Out.mk Xt.ret (frOf 52 [(6, .bool false)]) [.ro 39 cs] []) R) (k_pttf : (h0 : i < (↑n : Int)) → (h1 : i < (↑n : Int) - 1) → (h2 : ¬ ((X.touchV px py qx qy x0 x1 y0 y1).1 = true)) → Out.le (Out.mk Xt.normal (frOf 52 [(3, (pA 1)), (4, (pA 2)), (5, (pA 3)), (7, (pA 4)), (8, Value.func (Fn.func 79) #[] #[(pA 1), (pA 4), (pA 2), (pA 3)]), (28, (sB 0 n c)), (29, .int .i64 (↑n : Int)), (30, .int .i64 (i + 1))]) [.ro 39 cs, .own 22 [(sB 0 n c)], .own 32 [.int .i64 x0, .int .i64 x1], .own 32 [.int .i64 y0, .int .i64 y1], .own 3 [.int .i64 ((↑n : Int) - 1)]] []) R) (k_ptft : (h0 : i < (↑n : Int)) → (h1 : ¬ (i < (↑n : Int) - 1)) → (h2 : (X.touchV px py zx zy x0 x1 y0 y1).1 = true) → Out.le (Out.mk Xt.ret (frOf 52 [(6, .bool false)]) [.ro 39 cs] []) R) (k_ptff : (h0 : i < (↑n : Int)) → (h1 : ¬ (i < (↑n : Int) - 1)) → (h2 : ¬ ((X.touchV px py zx zy x0 x1 y0 y1).1 = true)) → Out.le (Out.mk Xt.normal (frOf 52 [(3, (pA 1)), (4, (pA 2)), (5, (pA 3)), (7, (pA 4)), (8, Value.func (Fn.func 79) #[] #[(pA 1), (pA 4), (pA 2), (pA 3)]), (28, (sB 0 n c)), (29, .int .i64 (↑n : Int)), (30, .int .i64 (i + 1))]) [.ro 39 cs, .own 22 [(sB 0 n c)], .own 32 [.int .i64 x0, .int .i64 x1], .own 32 [.int .i64 y0, .int .i64 y1], .own 3 [.int .i64 ((↑n : Int) - 1)]] []) R) (k_pf : (h0 : ¬ (i < (↑n : Int))) → Out.le (Out.mk (Xt.exit 0) (frOf 52 [(3, (pA 1)), (4, (pA 2)), (5, (pA 3)), (7, (pA 4)), (8, Value.func (Fn.func 79) #[] #[(pA 1), (pA 4), (pA 2), (pA 3)]), (28, (sB 0 n c)), (29, .int .i64 (↑n : Int)), (30, .int .i64 i)]) [.ro 39 cs, .own 22 [(sB 0 n c)], .own 32 [.int .i64 x0, .int .i64 x1], .own 32 [.int .i64 y0, .int .i64 y1], .own 3 [.int .i64 ((↑n : Int) - 1)]] []) R) : CodeSpec (Try.prog) (1) (wi_l) (frW n c i) (hpW n c cs x0 x1 y0 y1) R := by
  by_cases h0 : i < (↑n : Int)
  · by_cases h1 : i < (↑n : Int) - 1
    · by_cases h2 : (X.touchV px py qx qy x0 x1 y0 y1).1 = true
      · exact (CodeSpec.id (go_ok (body_ok tnamed tcalm tmixed _ _ _ _ _ _ wi_l_calm) (wi_round_pttt n c cs i px py qx qy zx zy x0 x1 y0 y1 hi hn hl hA hB hZ ) (aC (dT h0) (aC (inside_of (by omega)) (aC dO (aC ((hA (by omega))) (aC (inside_of (by omega)) (aC dO (aC ((hZ (by omega))) (aC (dT h1) (aC (congrArg (Value.int _) (Go.IntWalk.i64_in _ (by omega))) (aC (inside_of (by omega)) (aC dO (aC ((hB (by omega))) (aC ((gtouch_done _ _ _ _ _ _ _ _)) (aC (h2) aN)))))))))))))))).le (k_pttt h0 h1 h2)
      · exact (CodeSpec.id (go_ok (body_ok tnamed tcalm tmixed _ _ _ _ _ _ wi_l_calm) (wi_round_pttf n c cs i px py qx qy zx zy x0 x1 y0 y1 hi hn hl hA hB hZ ) (aC (dT h0) (aC (inside_of (by omega)) (aC dO (aC ((hA (by omega))) (aC (inside_of (by omega)) (aC dO (aC ((hZ (by omega))) (aC (dT h1) (aC (congrArg (Value.int _) (Go.IntWalk.i64_in _ (by omega))) (aC (inside_of (by omega)) (aC dO (aC ((hB (by omega))) (aC ((gtouch_done _ _ _ _ _ _ _ _)) (aC ((bF h2)) (aC (congrArg (Value.int _) (Go.IntWalk.i64_in _ (by omega))) aN))))))))))))))))).le (k_pttf h0 h1 h2)
    · by_cases h2 : (X.touchV px py zx zy x0 x1 y0 y1).1 = true
      · exact (CodeSpec.id (go_ok (body_ok tnamed tcalm tmixed _ _ _ _ _ _ wi_l_calm) (wi_round_ptft n c cs i px py qx qy zx zy x0 x1 y0 y1 hi hn hl hA hB hZ ) (aC (dT h0) (aC (inside_of (by omega)) (aC dO (aC ((hA (by omega))) (aC (inside_of (by omega)) (aC dO (aC ((hZ (by omega))) (aC (dF h1) (aC ((gtouch_done _ _ _ _ _ _ _ _)) (aC (h2) aN)))))))))))).le (k_ptft h0 h1 h2)
      · exact (CodeSpec.id (go_ok (body_ok tnamed tcalm tmixed _ _ _ _ _ _ wi_l_calm) (wi_round_ptff n c cs i px py qx qy zx zy x0 x1 y0 y1 hi hn hl hA hB hZ ) (aC (dT h0) (aC (inside_of (by omega)) (aC dO (aC ((hA (by omega))) (aC (inside_of (by omega)) (aC dO (aC ((hZ (by omega))) (aC (dF h1) (aC ((gtouch_done _ _ _ _ _ _ _ _)) (aC ((bF h2)) (aC (congrArg (Value.int _) (Go.IntWalk.i64_in _ (by omega))) aN))))))))))))).le (k_ptff h0 h1 h2)
  · exact (CodeSpec.id (go_ok (body_ok tnamed tcalm tmixed _ _ _ _ _ _ wi_l_calm) (wi_round_pf n c cs i px py qx qy zx zy x0 x1 y0 y1 hi hn hl hA hB hZ ) (aC (dF h0) aN))).le (k_pf h0)
end
section
variable (n c : Nat) (cs : List Value) (x0 x1 y0 y1 : Int) (hn : 1 ≤ n ∧ n ≤ 64) (hL : CodeSpec Try.prog 1 wi_lC (frW n c 0) (hpW n c cs x0 x1 y0 y1) (Out.mk Xt.ret frWR [.ro 39 cs] []))
include n c cs x0 x1 y0 y1 hn hL
theorem wi_T_pt : go (exec (Try.prog) (8) (53) ([slB 0 n c, pV x0 x1, pV y0 y1]) ([.ro 39 cs])) [(36, .call (.mk (.bool (X.inQ x0 && X.inQ x1 && (X.inQ y0 && X.inQ y1))) [.own 3 [.int .i64 x0, .int .i64 x1, .int .i64 y0, .int .i64 y1]] [])), (4, .dec true)] = some (.mk (.bool false) [.ro 39 cs] [], true, [CallSpec Try.prog 55 [(sB 0 4 4)] [.own 3 [.int .i64 x0, .int .i64 x1, .int .i64 y0, .int .i64 y1]] (.mk (.bool (X.inQ x0 && X.inQ x1 && (X.inQ y0 && X.inQ y1))) [.own 3 [.int .i64 x0, .int .i64 x1, .int .i64 y0, .int .i64 y1]] []), (!(X.inQ x0 && X.inQ x1 && (X.inQ y0 && X.inQ y1))) = true]) := by kernel_rfl
theorem wi_T_pf : go (exec (Try.prog) (8) (53) ([slB 0 n c, pV x0 x1, pV y0 y1]) ([.ro 39 cs])) [(36, .call (.mk (.bool (X.inQ x0 && X.inQ x1 && (X.inQ y0 && X.inQ y1))) [.own 3 [.int .i64 x0, .int .i64 x1, .int .i64 y0, .int .i64 y1]] [])), (4, .dec false), (3, Itm.val (.int .i64 ((↑n : Int) - 1))), (17, Itm.loop [3, 4, 5, 7, 8, 28, 29, 30] (Out.mk Xt.ret (frOf 52 [(6, .bool false)]) [.ro 39 cs] []))] = some (.mk (.bool false) [.ro 39 cs] [], true, [CallSpec Try.prog 55 [(sB 0 4 4)] [.own 3 [.int .i64 x0, .int .i64 x1, .int .i64 y0, .int .i64 y1]] (.mk (.bool (X.inQ x0 && X.inQ x1 && (X.inQ y0 && X.inQ y1))) [.own 3 [.int .i64 x0, .int .i64 x1, .int .i64 y0, .int .i64 y1]] []), (!(X.inQ x0 && X.inQ x1 && (X.inQ y0 && X.inQ y1))) = false, Value.int .i64 (IntKind.wrap .i64 ((↑n : Int) - 1)) = .int .i64 ((↑n : Int) - 1), type_of% hL]) := by kernel_rfl
theorem wi_T (R : Res) (k_pt : (h0 : (!(X.inQ x0 && X.inQ x1 && (X.inQ y0 && X.inQ y1))) = true) → Res.le (.mk (.bool false) [.ro 39 cs] []) R) (k_pf : (h0 : ¬ ((!(X.inQ x0 && X.inQ x1 && (X.inQ y0 && X.inQ y1))) = true)) → Res.le (.mk (.bool false) [.ro 39 cs] []) R) : CallSpec (Try.prog) (53) ([slB 0 n c, pV x0 x1, pV y0 y1]) ([.ro 39 cs]) R := by
  by_cases h0 : (!(X.inQ x0 && X.inQ x1 && (X.inQ y0 && X.inQ y1))) = true
  · exact (CallSpec.id (go_ok (exec_ok tnamed tcalm tmixed _ _ _ _) (wi_T_pt n c cs x0 x1 y0 y1 hn hL ) (aC ((may4_done _ _ _ _)) (aC (h0) aN)))).le (k_pt h0)
  · exact (CallSpec.id (go_ok (exec_ok tnamed tcalm tmixed _ _ _ _) (wi_T_pf n c cs x0 x1 y0 y1 hn hL ) (aC ((may4_done _ _ _ _)) (aC ((bF h0)) (aC (congrArg (Value.int _) (Go.IntWalk.i64_in _ (by omega))) (aC (hL) aN)))))).le (k_pf h0)
end
section
variable (n c : Nat) (cs : List Value) (x0 x1 y0 y1 sA sE : Int) (hn : 1 ≤ n ∧ n ≤ 64) (hL : CodeSpec Try.prog 1 wi_lC (frW n c 0) (hpW n c cs x0 x1 y0 y1) (Out.mk (Xt.exit 0) (frW n c (↑n : Int)) (hpW n c cs x0 x1 y0 y1) [])) (kS : CallSpec Try.prog 34 [slB 0 n c, (a2 x1 y1)] [.ro 39 cs] (.mk (.tuple #[.int .i64 sA, .int .i64 sE]) [.ro 39 cs] []))
include n c cs x0 x1 y0 y1 sA sE hn hL kS
theorem wi_E_pt : go (exec (Try.prog) (8) (53) ([slB 0 n c, pV x0 x1, pV y0 y1]) ([.ro 39 cs])) [(36, .call (.mk (.bool (X.inQ x0 && X.inQ x1 && (X.inQ y0 && X.inQ y1))) [.own 3 [.int .i64 x0, .int .i64 x1, .int .i64 y0, .int .i64 y1]] [])), (4, .dec true)] = some (.mk (.bool false) [.ro 39 cs] [], true, [CallSpec Try.prog 55 [(sB 0 4 4)] [.own 3 [.int .i64 x0, .int .i64 x1, .int .i64 y0, .int .i64 y1]] (.mk (.bool (X.inQ x0 && X.inQ x1 && (X.inQ y0 && X.inQ y1))) [.own 3 [.int .i64 x0, .int .i64 x1, .int .i64 y0, .int .i64 y1]] []), (!(X.inQ x0 && X.inQ x1 && (X.inQ y0 && X.inQ y1))) = true]) := by kernel_rfl
theorem wi_E_pf : go (exec (Try.prog) (8) (53) ([slB 0 n c, pV x0 x1, pV y0 y1]) ([.ro 39 cs])) [(36, .call (.mk (.bool (X.inQ x0 && X.inQ x1 && (X.inQ y0 && X.inQ y1))) [.own 3 [.int .i64 x0, .int .i64 x1, .int .i64 y0, .int .i64 y1]] [])), (4, .dec false), (3, Itm.val (.int .i64 ((↑n : Int) - 1))), (17, Itm.loop [3, 4, 5, 7, 8, 28, 29, 30] (Out.mk (Xt.exit 0) (frOf 52 [(3, (pA 1)), (4, (pA 2)), (5, (pA 3)), (7, (pA 4)), (8, Value.func (Fn.func 79) #[] #[(pA 1), (pA 4), (pA 2), (pA 3)]), (28, (sB 0 n c)), (29, .int .i64 (↑n : Int)), (30, .int .i64 (↑n : Int))]) [.ro 39 cs, .own 22 [(sB 0 n c)], .own 32 [.int .i64 x0, .int .i64 x1], .own 32 [.int .i64 y0, .int .i64 y1], .own 3 [.int .i64 ((↑n : Int) - 1)]] [])), (16, .call (.mk (.tuple #[.int .i64 sA, .int .i64 sE]) [.ro 39 cs] []))] = some (.mk (.bool (decide (sA = 1))) [.ro 39 cs] [], true, [CallSpec Try.prog 55 [(sB 0 4 4)] [.own 3 [.int .i64 x0, .int .i64 x1, .int .i64 y0, .int .i64 y1]] (.mk (.bool (X.inQ x0 && X.inQ x1 && (X.inQ y0 && X.inQ y1))) [.own 3 [.int .i64 x0, .int .i64 x1, .int .i64 y0, .int .i64 y1]] []), (!(X.inQ x0 && X.inQ x1 && (X.inQ y0 && X.inQ y1))) = false, Value.int .i64 (IntKind.wrap .i64 ((↑n : Int) - 1)) = .int .i64 ((↑n : Int) - 1), type_of% hL, type_of% kS]) := by kernel_rfl
theorem wi_E (R : Res) (k_pt : (h0 : (!(X.inQ x0 && X.inQ x1 && (X.inQ y0 && X.inQ y1))) = true) → Res.le (.mk (.bool false) [.ro 39 cs] []) R) (k_pf : (h0 : ¬ ((!(X.inQ x0 && X.inQ x1 && (X.inQ y0 && X.inQ y1))) = true)) → Res.le (.mk (.bool (decide (sA = 1))) [.ro 39 cs] []) R) : CallSpec (Try.prog) (53) ([slB 0 n c, pV x0 x1, pV y0 y1]) ([.ro 39 cs]) R := by
  by_cases h0 : (!(X.inQ x0 && X.inQ x1 && (X.inQ y0 && X.inQ y1))) = true
  · exact (CallSpec.id (go_ok (exec_ok tnamed tcalm tmixed _ _ _ _) (wi_E_pt n c cs x0 x1 y0 y1 sA sE hn hL kS ) (aC ((may4_done _ _ _ _)) (aC (h0) aN)))).le (k_pt h0)
  · exact (CallSpec.id (go_ok (exec_ok tnamed tcalm tmixed _ _ _ _) (wi_E_pf n c cs x0 x1 y0 y1 sA sE hn hL kS ) (aC ((may4_done _ _ _ _)) (aC ((bF h0)) (aC (congrArg (Value.int _) (Go.IntWalk.i64_in _ (by omega))) (aC (hL) (aC (kS) aN))))))).le (k_pf h0)
end
end Go.Proofs.Ytjalkjeldlchoaa.Ex
end
section
set_option linter.unusedSectionVars false
set_option linter.unusedSimpArgs false
set_option linter.unusedVariables false
namespace Go.Proofs.Ytjalkjeldlchoaa.X
open Go Go.RowKit
def touchAt (l : List S23) (x0 x1 y0 y1 : Int) (i : Nat) : Bool := (touchV (pt l i).f0 (pt l i).f1 (nx l (i + 1)).f0 (nx l (i + 1)).f1 x0 x1 y0 y1).1
def withinV (l : List S23) (x0 x1 y0 y1 : Int) : Bool := ((inQ x0 && inQ x1) && (inQ y0 && inQ y1)) && (!anyF (touchAt l x0 x1 y0 y1) l.length l.length && decide (Ex.sideA l x1 y1 = 1))
end Go.Proofs.Ytjalkjeldlchoaa.X
namespace Go.Proofs.Ytjalkjeldlchoaa.Ex
open Go Go.RowKit Go.Proofs.Ytjalkjeldlchoaa.X
set_option linter.unusedVariables false
theorem zero_pt {l : List S23} (h : 0 < l.length) : Value.agg (List.toArray (List.take 2 (List.drop 0 (pc l)))) = .agg #[.int .i64 (pt l 0).f0, .int .i64 (pt l 0).f1] := ptAt_of (i := 0) h
theorem wi_told {l : List S23} {c : Nat} {x0 x1 y0 y1 : Int} (h0 : 0 < l.length) (hn : l.length ≤ 64) :
    (anyF (touchAt l x0 x1 y0 y1) l.length l.length = true → CodeSpec Try.prog 1 wi_lC (frW l.length c 0) (hpW l.length c (pc l) x0 x1 y0 y1) ⟨.ret, frWR, [.ro 39 (pc l)], []⟩) ∧
    (anyF (touchAt l x0 x1 y0 y1) l.length l.length = false → CodeSpec Try.prog 1 wi_lC (frW l.length c 0) (hpW l.length c (pc l) x0 x1 y0 y1) ⟨.exit 0, frW l.length c l.length, hpW l.length c (pc l) x0 x1 y0 y1, []⟩) := by
  have e1 : ∀ i, i + 1 < l.length → nx l (i + 1) = pt l (i + 1) := fun i h => nx_lt h
  have e2 : ∀ i, i + 1 = l.length → nx l (i + 1) = pt l 0 := fun i h => by rw [h]; exact nx_len h0
  have round : ∀ i, i < l.length → _ := fun i hi => wi_round l.length c (pc l) i (pt l i).f0 (pt l i).f1 (pt l (i + 1)).f0 (pt l (i + 1)).f1 (pt l 0).f0 (pt l 0).f1 x0 x1 y0 y1 (by omega) hn (pc_len l) (fun _ => ptAt_of hi) (fun h => ptAt_of (i := i + 1) (by omega)) (fun _ => zero_pt h0)
  have h := any_rounds (P := Try.prog) (m0 := 1) (c := wi_l) (fr := frW l.length c) (hp := hpW l.length c (pc l) x0 x1 y0 y1) (rt := ⟨.ret, frWR, [.ro 39 (pc l)], []⟩) (ex := ⟨.exit 0, frW l.length c l.length, hpW l.length c (pc l) x0 x1 y0 y1, []⟩) (f := touchAt l x0 x1 y0 y1) (n := l.length) (lo := 0) (by intro h; cases h) (by intro h; cases h)
    (fun i _ hi hf => by
      unfold touchAt at hf
      refine round i hi _ (fun _ _ _ => out_eq) (fun _ h g => ?_) (fun _ _ _ => out_eq) (fun _ h g => ?_) (fun h => absurd (by omega) h)
      · rw [e1 i (by omega)] at hf; exact absurd hf g
      · rw [e2 i (by omega)] at hf; exact absurd hf g)
    (fun i _ hi hf => by
      unfold touchAt at hf
      refine round i hi _ (fun _ h g => ?_) (fun _ _ _ => out_eq) (fun _ h g => ?_) (fun _ _ _ => out_eq) (fun h => absurd (by omega) h)
      · rw [e1 i (by omega)] at hf; exact absurd (hf.symm.trans g) Bool.false_ne_true
      · rw [e2 i (by omega)] at hf; exact absurd (hf.symm.trans g) Bool.false_ne_true)
    (wi_round l.length c (pc l) l.length 0 0 0 0 0 0 x0 x1 y0 y1 (by omega) hn (pc_len l) (fun h => by omega) (fun h => by omega) (fun h => by omega) _ (fun h => by omega) (fun h => by omega) (fun h => by omega) (fun h => by omega) (fun _ => out_eq)) l.length 0 (by omega) (by omega)
  exact ⟨fun g => (h.1 g).code, fun g => (h.2 g).code⟩
theorem within_done {l : List S23} {c : Nat} (x0 x1 y0 y1 : Int) (h0 : 0 < l.length) (hn : l.length ≤ 64) : CallSpec Try.prog 53 [slB 0 l.length c, pV x0 x1, pV y0 y1] [.ro 39 (pc l)] ⟨.bool (withinV l x0 x1 y0 y1), [.ro 39 (pc l)], []⟩ := by
  have hw := wi_told (c := c) (x0 := x0) (x1 := x1) (y0 := y0) (y1 := y1) h0 hn
  unfold withinV
  cases ht : anyF (touchAt l x0 x1 y0 y1) l.length l.length with
  | true =>
    refine wi_T _ _ _ _ _ _ _ ⟨h0, hn⟩ (hw.1 ht) _ (fun h => res_b ?_) (fun h => res_b ?_)
    · rw [Bool.not_true, Bool.false_and, Bool.and_false]
    · rw [Bool.not_true, Bool.false_and, Bool.and_false]
  | false =>
    refine wi_E _ _ _ _ _ _ _ _ _ ⟨h0, hn⟩ (hw.2 ht) (gside_done l c x1 y1 (by omega)) _ (fun h => res_b ?_) (fun h => res_b ?_)
    · rw [Bool.not_eq_true'] at h
      rw [h, Bool.false_and]
    · rw [Bool.not_eq_true', Bool.not_eq_false] at h
      rw [h, Bool.true_and, Bool.not_false, Bool.true_and]
end Go.Proofs.Ytjalkjeldlchoaa.Ex
end
section
set_option linter.unusedSectionVars false
set_option linter.unusedSimpArgs false
set_option linter.unusedVariables false
namespace Go.Proofs.Ytjalkjeldlchoaa.Ex
open Go
set_option linter.unusedVariables false
theorem gfits2 (a b c d : Int) : CallSpec Try.prog 68 [.slice (some ⟨0, 0, none⟩) 2 2] [.own 39 [.int .i64 a, .int .i64 b, .int .i64 c, .int .i64 d]] ⟨.bool (!(X.outP ⟨a, b⟩ || X.outP ⟨c, d⟩)), [.own 39 [.int .i64 a, .int .i64 b, .int .i64 c, .int .i64 d]], []⟩ := by
  have h := gfits_done [⟨a, b⟩, ⟨c, d⟩] 2 (by simp)
  have e : ([⟨a, b⟩, ⟨c, d⟩] : List X.S23).any X.outP = (X.outP ⟨a, b⟩ || X.outP ⟨c, d⟩) := by simp
  rw [e] at h
  exact CallSpec.soft (hp := [.ro 39 [.int .i64 a, .int .i64 b, .int .i64 c, .int .i64 d]]) rfl rfl soft_one h
section
variable (a0 a1 b0 b1 : Int)
include a0 a1 b0 b1
theorem gfar_ok_pt : go (exec (Try.prog) (8) (37) ([pV a0 a1, pV b0 b1]) ([])) [(20, .call (.mk (.bool !(X.outP (X.S23.mk a0 a1) || X.outP (X.S23.mk b0 b1))) [.own 39 [.int .i64 a0, .int .i64 a1, .int .i64 b0, .int .i64 b1]] [])), (4, .dec true)] = some (.mk (.tuple #[.int .i64 0, .int .i64 5]) [] [], true, [CallSpec Try.prog 68 [(sB 0 2 2)] [.own 39 [.int .i64 a0, .int .i64 a1, .int .i64 b0, .int .i64 b1]] (.mk (.bool !(X.outP (X.S23.mk a0 a1) || X.outP (X.S23.mk b0 b1))) [.own 39 [.int .i64 a0, .int .i64 a1, .int .i64 b0, .int .i64 b1]] []), (!!(X.outP (X.S23.mk a0 a1) || X.outP (X.S23.mk b0 b1))) = true]) := by kernel_rfl
theorem gfar_ok_pf : go (exec (Try.prog) (8) (37) ([pV a0 a1, pV b0 b1]) ([])) [(20, .call (.mk (.bool !(X.outP (X.S23.mk a0 a1) || X.outP (X.S23.mk b0 b1))) [.own 39 [.int .i64 a0, .int .i64 a1, .int .i64 b0, .int .i64 b1]] [])), (4, .dec false)] = some (.mk (.tuple #[.int .i64 (IntKind.wrap .i64 (IntKind.wrap .i64 (IntKind.wrap .i64 (a0 - b0) * IntKind.wrap .i64 (a0 - b0)) + IntKind.wrap .i64 (IntKind.wrap .i64 (a1 - b1) * IntKind.wrap .i64 (a1 - b1)))), .int .i64 0]) [] [], true, [CallSpec Try.prog 68 [(sB 0 2 2)] [.own 39 [.int .i64 a0, .int .i64 a1, .int .i64 b0, .int .i64 b1]] (.mk (.bool !(X.outP (X.S23.mk a0 a1) || X.outP (X.S23.mk b0 b1))) [.own 39 [.int .i64 a0, .int .i64 a1, .int .i64 b0, .int .i64 b1]] []), (!!(X.outP (X.S23.mk a0 a1) || X.outP (X.S23.mk b0 b1))) = false]) := by kernel_rfl
theorem gfar_ok (R : Res) (k_pt : (h0 : (!!(X.outP (X.S23.mk a0 a1) || X.outP (X.S23.mk b0 b1))) = true) → Res.le (.mk (.tuple #[.int .i64 0, .int .i64 5]) [] []) R) (k_pf : (h0 : ¬ ((!!(X.outP (X.S23.mk a0 a1) || X.outP (X.S23.mk b0 b1))) = true)) → Res.le (.mk (.tuple #[.int .i64 (IntKind.wrap .i64 (IntKind.wrap .i64 (IntKind.wrap .i64 (a0 - b0) * IntKind.wrap .i64 (a0 - b0)) + IntKind.wrap .i64 (IntKind.wrap .i64 (a1 - b1) * IntKind.wrap .i64 (a1 - b1)))), .int .i64 0]) [] []) R) : CallSpec (Try.prog) (37) ([pV a0 a1, pV b0 b1]) ([]) R := by
  by_cases h0 : (!!(X.outP (X.S23.mk a0 a1) || X.outP (X.S23.mk b0 b1))) = true
  · exact (CallSpec.id (go_ok (exec_ok tnamed tcalm tmixed _ _ _ _) (gfar_ok_pt a0 a1 b0 b1 ) (aC ((gfits2 _ _ _ _)) (aC (h0) aN)))).le (k_pt h0)
  · exact (CallSpec.id (go_ok (exec_ok tnamed tcalm tmixed _ _ _ _) (gfar_ok_pf a0 a1 b0 b1 ) (aC ((gfits2 _ _ _ _)) (aC ((bF h0)) aN)))).le (k_pf h0)
end
section
variable (n c m d : Nat) (cs rs : List Value) (fl ce x0 x1 y0 y1 z0 z1 e : Int) (w : Bool) (kC : CallSpec Try.prog 18 [fV (slB 0 n c) fl ce (slB 1 m d)] [.ro 39 cs, .ro 39 rs] (.mk (.int .i64 e) [.ro 39 cs, .ro 39 rs] [])) (kW : e = 0 → CallSpec Try.prog 53 [slB 0 n c, pV x0 x1, pV y0 y1] [.ro 39 cs] (.mk (.bool w) [.ro 39 cs] []))
include n c m d cs rs fl ce x0 x1 y0 y1 z0 z1 e w kC kW
theorem holds_ok_pt : go (exec (Try.prog) (8) (21) ([fV (slB 0 n c) fl ce (slB 1 m d), (a6 x0 x1 y0 y1 z0 z1)]) ([.ro 39 cs, .ro 39 rs])) [(12, .call (.mk (.int .i64 e) [.ro 39 cs, .ro 39 rs] [])), (7, .dec true)] = some (.mk (.tuple #[.bool false, .int .i64 e]) [.ro 39 cs, .ro 39 rs] [], true, [type_of% kC, (!decide (e = 0)) = true]) := by kernel_rfl
theorem holds_ok_pft : go (exec (Try.prog) (8) (21) ([fV (slB 0 n c) fl ce (slB 1 m d), (a6 x0 x1 y0 y1 z0 z1)]) ([.ro 39 cs, .ro 39 rs])) [(12, .call (.mk (.int .i64 e) [.ro 39 cs, .ro 39 rs] [])), (7, .dec false), (16, .call (.mk (.bool (decide (x0 > x1 ∨ y0 > y1 ∨ z0 > z1))) [.own 32 [.int .i64 x0, .int .i64 x1, .int .i64 y0, .int .i64 y1, .int .i64 z0, .int .i64 z1]] [])), (3, .dec true)] = some (.mk (.tuple #[.bool false, .int .i64 1]) [.ro 39 cs, .ro 39 rs] [], true, [type_of% kC, (!decide (e = 0)) = false, CallSpec Try.prog 51 [(sB 0 3 3), Value.func (Fn.func 52) #[] #[]] [.own 32 [.int .i64 x0, .int .i64 x1, .int .i64 y0, .int .i64 y1, .int .i64 z0, .int .i64 z1]] (.mk (.bool (decide (x0 > x1 ∨ y0 > y1 ∨ z0 > z1))) [.own 32 [.int .i64 x0, .int .i64 x1, .int .i64 y0, .int .i64 y1, .int .i64 z0, .int .i64 z1]] []), decide (x0 > x1 ∨ y0 > y1 ∨ z0 > z1) = true]) := by kernel_rfl
theorem holds_ok_pfftt : go (exec (Try.prog) (8) (21) ([fV (slB 0 n c) fl ce (slB 1 m d), (a6 x0 x1 y0 y1 z0 z1)]) ([.ro 39 cs, .ro 39 rs])) [(12, .call (.mk (.int .i64 e) [.ro 39 cs, .ro 39 rs] [])), (7, .dec false), (16, .call (.mk (.bool (decide (x0 > x1 ∨ y0 > y1 ∨ z0 > z1))) [.own 32 [.int .i64 x0, .int .i64 x1, .int .i64 y0, .int .i64 y1, .int .i64 z0, .int .i64 z1]] [])), (3, .dec false), (11, .dec true), (1, .dec true), (1, .dec true), (3, .dec true), (1, .dec true), (3, .dec true), (1, .dec true), (2, .dec true), (1, .dec true), (2, .dec true), (1, .dec true), (2, .dec true), (1, .dec true), (2, .dec true), (0, .call (.mk (.bool w) [.ro 39 cs] [])), (2, .dec true)] = some (.mk (.tuple #[.bool w, .int .i64 0]) [.ro 39 cs, .ro 39 rs] [], true, [type_of% kC, (!decide (e = 0)) = false, CallSpec Try.prog 51 [(sB 0 3 3), Value.func (Fn.func 52) #[] #[]] [.own 32 [.int .i64 x0, .int .i64 x1, .int .i64 y0, .int .i64 y1, .int .i64 z0, .int .i64 z1]] (.mk (.bool (decide (x0 > x1 ∨ y0 > y1 ∨ z0 > z1))) [.own 32 [.int .i64 x0, .int .i64 x1, .int .i64 y0, .int .i64 y1, .int .i64 z0, .int .i64 z1]] []), decide (x0 > x1 ∨ y0 > y1 ∨ z0 > z1) = false, decide (z0 ≥ fl) = true, decide (z0 ≥ fl) = true, decide (z0 ≥ fl) = true, decide (z0 ≥ fl) = true, decide (z0 ≥ fl) = true, decide (z0 ≥ fl) = true, decide (z0 ≥ fl) = true, decide (z1 ≤ ce) = true, decide (z1 ≤ ce) = true, decide (z1 ≤ ce) = true, decide (z1 ≤ ce) = true, decide (z1 ≤ ce) = true, decide (z1 ≤ ce) = true, decide (z1 ≤ ce) = true, CallSpec Try.prog 53 [(sB 0 n c), (a2 x0 x1), (a2 y0 y1)] [.ro 39 cs] (.mk (.bool w) [.ro 39 cs] []), decide (z1 ≤ ce) = true]) := by kernel_rfl
theorem holds_ok_pfftf : go (exec (Try.prog) (8) (21) ([fV (slB 0 n c) fl ce (slB 1 m d), (a6 x0 x1 y0 y1 z0 z1)]) ([.ro 39 cs, .ro 39 rs])) [(12, .call (.mk (.int .i64 e) [.ro 39 cs, .ro 39 rs] [])), (7, .dec false), (16, .call (.mk (.bool (decide (x0 > x1 ∨ y0 > y1 ∨ z0 > z1))) [.own 32 [.int .i64 x0, .int .i64 x1, .int .i64 y0, .int .i64 y1, .int .i64 z0, .int .i64 z1]] [])), (3, .dec false), (11, .dec true), (1, .dec true), (1, .dec true), (3, .dec true), (1, .dec true), (3, .dec true), (1, .dec true), (2, .dec false), (0, .dec false), (0, .dec false), (0, .dec false), (0, .dec false), (0, .dec false), (0, .dec false), (0, .dec false)] = some (.mk (.tuple #[.bool false, .int .i64 0]) [.ro 39 cs, .ro 39 rs] [], true, [type_of% kC, (!decide (e = 0)) = false, CallSpec Try.prog 51 [(sB 0 3 3), Value.func (Fn.func 52) #[] #[]] [.own 32 [.int .i64 x0, .int .i64 x1, .int .i64 y0, .int .i64 y1, .int .i64 z0, .int .i64 z1]] (.mk (.bool (decide (x0 > x1 ∨ y0 > y1 ∨ z0 > z1))) [.own 32 [.int .i64 x0, .int .i64 x1, .int .i64 y0, .int .i64 y1, .int .i64 z0, .int .i64 z1]] []), decide (x0 > x1 ∨ y0 > y1 ∨ z0 > z1) = false, decide (z0 ≥ fl) = true, decide (z0 ≥ fl) = true, decide (z0 ≥ fl) = true, decide (z0 ≥ fl) = true, decide (z0 ≥ fl) = true, decide (z0 ≥ fl) = true, decide (z0 ≥ fl) = true, decide (z1 ≤ ce) = false, decide (z1 ≤ ce) = false, decide (z1 ≤ ce) = false, decide (z1 ≤ ce) = false, decide (z1 ≤ ce) = false, decide (z1 ≤ ce) = false, decide (z1 ≤ ce) = false, decide (z1 ≤ ce) = false]) := by kernel_rfl
theorem holds_ok_pfff : go (exec (Try.prog) (8) (21) ([fV (slB 0 n c) fl ce (slB 1 m d), (a6 x0 x1 y0 y1 z0 z1)]) ([.ro 39 cs, .ro 39 rs])) [(12, .call (.mk (.int .i64 e) [.ro 39 cs, .ro 39 rs] [])), (7, .dec false), (16, .call (.mk (.bool (decide (x0 > x1 ∨ y0 > y1 ∨ z0 > z1))) [.own 32 [.int .i64 x0, .int .i64 x1, .int .i64 y0, .int .i64 y1, .int .i64 z0, .int .i64 z1]] [])), (3, .dec false), (11, .dec false), (0, .dec false), (0, .dec false), (0, .dec false), (0, .dec false), (0, .dec false), (0, .dec false)] = some (.mk (.tuple #[.bool false, .int .i64 0]) [.ro 39 cs, .ro 39 rs] [], true, [type_of% kC, (!decide (e = 0)) = false, CallSpec Try.prog 51 [(sB 0 3 3), Value.func (Fn.func 52) #[] #[]] [.own 32 [.int .i64 x0, .int .i64 x1, .int .i64 y0, .int .i64 y1, .int .i64 z0, .int .i64 z1]] (.mk (.bool (decide (x0 > x1 ∨ y0 > y1 ∨ z0 > z1))) [.own 32 [.int .i64 x0, .int .i64 x1, .int .i64 y0, .int .i64 y1, .int .i64 z0, .int .i64 z1]] []), decide (x0 > x1 ∨ y0 > y1 ∨ z0 > z1) = false, decide (z0 ≥ fl) = false, decide (z0 ≥ fl) = false, decide (z0 ≥ fl) = false, decide (z0 ≥ fl) = false, decide (z0 ≥ fl) = false, decide (z0 ≥ fl) = false, decide (z0 ≥ fl) = false]) := by kernel_rfl
theorem holds_ok (R : Res) (k_pt : (h0 : ¬e = 0) → Res.le (.mk (.tuple #[.bool false, .int .i64 e]) [.ro 39 cs, .ro 39 rs] []) R) (k_pft : (h0 : ¬ (¬e = 0)) → (h1 : x0 > x1 ∨ y0 > y1 ∨ z0 > z1) → Res.le (.mk (.tuple #[.bool false, .int .i64 1]) [.ro 39 cs, .ro 39 rs] []) R) (k_pfftt : (h0 : ¬ (¬e = 0)) → (h1 : ¬ (x0 > x1 ∨ y0 > y1 ∨ z0 > z1)) → (h2 : z0 ≥ fl) → (h3 : z1 ≤ ce) → Res.le (.mk (.tuple #[.bool w, .int .i64 0]) [.ro 39 cs, .ro 39 rs] []) R) (k_pfftf : (h0 : ¬ (¬e = 0)) → (h1 : ¬ (x0 > x1 ∨ y0 > y1 ∨ z0 > z1)) → (h2 : z0 ≥ fl) → (h3 : ¬ (z1 ≤ ce)) → Res.le (.mk (.tuple #[.bool false, .int .i64 0]) [.ro 39 cs, .ro 39 rs] []) R) (k_pfff : (h0 : ¬ (¬e = 0)) → (h1 : ¬ (x0 > x1 ∨ y0 > y1 ∨ z0 > z1)) → (h2 : ¬ (z0 ≥ fl)) → Res.le (.mk (.tuple #[.bool false, .int .i64 0]) [.ro 39 cs, .ro 39 rs] []) R) : CallSpec (Try.prog) (21) ([fV (slB 0 n c) fl ce (slB 1 m d), (a6 x0 x1 y0 y1 z0 z1)]) ([.ro 39 cs, .ro 39 rs]) R := by
  by_cases h0 : ¬e = 0
  · exact (CallSpec.id (go_ok (exec_ok tnamed tcalm tmixed _ _ _ _) (holds_ok_pt n c m d cs rs fl ce x0 x1 y0 y1 z0 z1 e w kC kW ) (aC (kC) (aC ((by simpa using h0)) aN)))).le (k_pt h0)
  · by_cases h1 : x0 > x1 ∨ y0 > y1 ∨ z0 > z1
    · exact (CallSpec.id (go_ok (exec_ok tnamed tcalm tmixed _ _ _ _) (holds_ok_pft n c m d cs rs fl ce x0 x1 y0 y1 z0 z1 e w kC kW ) (aC (kC) (aC ((by simpa using h0)) (aC ((up_done _ _ _ _ _ _)) (aC (dT h1) aN)))))).le (k_pft h0 h1)
    · by_cases h2 : z0 ≥ fl
      · by_cases h3 : z1 ≤ ce
        · exact (CallSpec.id (go_ok (exec_ok tnamed tcalm tmixed _ _ _ _) (holds_ok_pfftt n c m d cs rs fl ce x0 x1 y0 y1 z0 z1 e w kC kW ) (aC (kC) (aC ((by simpa using h0)) (aC ((up_done _ _ _ _ _ _)) (aC (dF h1) (aC (dT h2) (aC (dT h2) (aC (dT h2) (aC (dT h2) (aC (dT h2) (aC (dT h2) (aC (dT h2) (aC (dT h3) (aC (dT h3) (aC (dT h3) (aC (dT h3) (aC (dT h3) (aC (dT h3) (aC (dT h3) (aC ((kW (by omega))) (aC (dT h3) aN)))))))))))))))))))))).le (k_pfftt h0 h1 h2 h3)
        · exact (CallSpec.id (go_ok (exec_ok tnamed tcalm tmixed _ _ _ _) (holds_ok_pfftf n c m d cs rs fl ce x0 x1 y0 y1 z0 z1 e w kC kW ) (aC (kC) (aC ((by simpa using h0)) (aC ((up_done _ _ _ _ _ _)) (aC (dF h1) (aC (dT h2) (aC (dT h2) (aC (dT h2) (aC (dT h2) (aC (dT h2) (aC (dT h2) (aC (dT h2) (aC (dF h3) (aC (dF h3) (aC (dF h3) (aC (dF h3) (aC (dF h3) (aC (dF h3) (aC (dF h3) (aC (dF h3) aN))))))))))))))))))))).le (k_pfftf h0 h1 h2 h3)
      · exact (CallSpec.id (go_ok (exec_ok tnamed tcalm tmixed _ _ _ _) (holds_ok_pfff n c m d cs rs fl ce x0 x1 y0 y1 z0 z1 e w kC kW ) (aC (kC) (aC ((by simpa using h0)) (aC ((up_done _ _ _ _ _ _)) (aC (dF h1) (aC (dF h2) (aC (dF h2) (aC (dF h2) (aC (dF h2) (aC (dF h2) (aC (dF h2) (aC (dF h2) aN))))))))))))).le (k_pfff h0 h1 h2)
end
section
variable (n c m d : Nat) (cs rs : List Value) (l : List X.S23) (fl ce a0 a1 b0 b1 r : Int) (ha : -536870912 ≤ a0 ∧ a0 ≤ 536870912 ∧ -536870912 ≤ a1 ∧ a1 ≤ 536870912) (hb : -536870912 ≤ b0 ∧ b0 ≤ 536870912 ∧ -536870912 ≤ b1 ∧ b1 ≤ 536870912) (hr : 0 ≤ r) (kW : ∀ (x0 x1 y0 y1 : Int), CallSpec Try.prog 53 [slB 0 n c, pV x0 x1, pV y0 y1] [.ro 39 cs] (.mk (.bool (X.withinV l x0 x1 y0 y1)) [.ro 39 cs] []))
include n c m d cs rs l fl ce a0 a1 b0 b1 r ha hb hr kW
theorem lane_ok_p : go (exec (Try.prog) (8) (56) ([fV (slB 0 n c) fl ce (slB 1 m d), pV a0 a1, pV b0 b1, .int .i64 r]) ([.ro 39 cs, .ro 39 rs])) [(38, Itm.val (.int .i64 ((if b0 < a0 then b0 else a0) - if 1073741825 < r then 1073741825 else r))), (4, Itm.val (.int .i64 ((if b0 > a0 then b0 else a0) + if 1073741825 < r then 1073741825 else r))), (34, Itm.val (.int .i64 ((if b1 < a1 then b1 else a1) - if 1073741825 < r then 1073741825 else r))), (4, Itm.val (.int .i64 ((if b1 > a1 then b1 else a1) + if 1073741825 < r then 1073741825 else r))), (15, .call (.mk (.bool (X.withinV l ((if b0 < a0 then b0 else a0) - if 1073741825 < r then 1073741825 else r) ((if b0 > a0 then b0 else a0) + if 1073741825 < r then 1073741825 else r) ((if b1 < a1 then b1 else a1) - if 1073741825 < r then 1073741825 else r) ((if b1 > a1 then b1 else a1) + if 1073741825 < r then 1073741825 else r))) [.ro 39 cs] []))] = some (.mk (.bool (X.withinV l ((if b0 < a0 then b0 else a0) - if 1073741825 < r then 1073741825 else r) ((if b0 > a0 then b0 else a0) + if 1073741825 < r then 1073741825 else r) ((if b1 < a1 then b1 else a1) - if 1073741825 < r then 1073741825 else r) ((if b1 > a1 then b1 else a1) + if 1073741825 < r then 1073741825 else r))) [.ro 39 cs, .ro 39 rs] [], true, [Value.int .i64 (IntKind.wrap .i64 ((if b0 < a0 then b0 else a0) - if 1073741825 < r then 1073741825 else r)) = .int .i64 ((if b0 < a0 then b0 else a0) - if 1073741825 < r then 1073741825 else r), Value.int .i64 (IntKind.wrap .i64 ((if b0 > a0 then b0 else a0) + if 1073741825 < r then 1073741825 else r)) = .int .i64 ((if b0 > a0 then b0 else a0) + if 1073741825 < r then 1073741825 else r), Value.int .i64 (IntKind.wrap .i64 ((if b1 < a1 then b1 else a1) - if 1073741825 < r then 1073741825 else r)) = .int .i64 ((if b1 < a1 then b1 else a1) - if 1073741825 < r then 1073741825 else r), Value.int .i64 (IntKind.wrap .i64 ((if b1 > a1 then b1 else a1) + if 1073741825 < r then 1073741825 else r)) = .int .i64 ((if b1 > a1 then b1 else a1) + if 1073741825 < r then 1073741825 else r), CallSpec Try.prog 53 [(sB 0 n c), .agg #[.int .i64 ((if b0 < a0 then b0 else a0) - if 1073741825 < r then 1073741825 else r), .int .i64 ((if b0 > a0 then b0 else a0) + if 1073741825 < r then 1073741825 else r)], .agg #[.int .i64 ((if b1 < a1 then b1 else a1) - if 1073741825 < r then 1073741825 else r), .int .i64 ((if b1 > a1 then b1 else a1) + if 1073741825 < r then 1073741825 else r)]] [.ro 39 cs] (.mk (.bool (X.withinV l ((if b0 < a0 then b0 else a0) - if 1073741825 < r then 1073741825 else r) ((if b0 > a0 then b0 else a0) + if 1073741825 < r then 1073741825 else r) ((if b1 < a1 then b1 else a1) - if 1073741825 < r then 1073741825 else r) ((if b1 > a1 then b1 else a1) + if 1073741825 < r then 1073741825 else r))) [.ro 39 cs] [])]) := by kernel_rfl
theorem lane_ok (R : Res) (k_p : Res.le (.mk (.bool (X.withinV l ((if b0 < a0 then b0 else a0) - if 1073741825 < r then 1073741825 else r) ((if b0 > a0 then b0 else a0) + if 1073741825 < r then 1073741825 else r) ((if b1 < a1 then b1 else a1) - if 1073741825 < r then 1073741825 else r) ((if b1 > a1 then b1 else a1) + if 1073741825 < r then 1073741825 else r))) [.ro 39 cs, .ro 39 rs] []) R) : CallSpec (Try.prog) (56) ([fV (slB 0 n c) fl ce (slB 1 m d), pV a0 a1, pV b0 b1, .int .i64 r]) ([.ro 39 cs, .ro 39 rs]) R := by
  exact (CallSpec.id (go_ok (exec_ok tnamed tcalm tmixed _ _ _ _) (lane_ok_p n c m d cs rs l fl ce a0 a1 b0 b1 r ha hb hr kW ) (aC (congrArg (Value.int _) (Go.IntWalk.i64_in _ (by omega))) (aC (congrArg (Value.int _) (Go.IntWalk.i64_in _ (by omega))) (aC (congrArg (Value.int _) (Go.IntWalk.i64_in _ (by omega))) (aC (congrArg (Value.int _) (Go.IntWalk.i64_in _ (by omega))) (aC ((kW _ _ _ _)) aN))))))).le (k_p )
end
section
variable (n c m d : Nat) (cs rs : List Value) (fl ce a0 a1 b0 b1 r e : Int) (w : Bool) (kC : CallSpec Try.prog 18 [fV (slB 0 n c) fl ce (slB 1 m d)] [.ro 39 cs, .ro 39 rs] (.mk (.int .i64 e) [.ro 39 cs, .ro 39 rs] [])) (kL : e = 0 → (X.inQ a0 && X.inQ a1 && (X.inQ b0 && X.inQ b1)) = true → 0 ≤ r → CallSpec Try.prog 56 [fV (slB 0 n c) fl ce (slB 1 m d), pV a0 a1, pV b0 b1, .int .i64 r] [.ro 39 cs, .ro 39 rs] (.mk (.bool w) [.ro 39 cs, .ro 39 rs] []))
include n c m d cs rs fl ce a0 a1 b0 b1 r e w kC kL
theorem Lane_ok_pt : go (exec (Try.prog) (8) (23) ([fV (slB 0 n c) fl ce (slB 1 m d), pV a0 a1, pV b0 b1, .int .i64 r]) ([.ro 39 cs, .ro 39 rs])) [(15, .call (.mk (.int .i64 e) [.ro 39 cs, .ro 39 rs] [])), (7, .dec true)] = some (.mk (.tuple #[.bool false, .int .i64 e]) [.ro 39 cs, .ro 39 rs] [], true, [type_of% kC, (!decide (e = 0)) = true]) := by kernel_rfl
theorem Lane_ok_pft : go (exec (Try.prog) (8) (23) ([fV (slB 0 n c) fl ce (slB 1 m d), pV a0 a1, pV b0 b1, .int .i64 r]) ([.ro 39 cs, .ro 39 rs])) [(15, .call (.mk (.int .i64 e) [.ro 39 cs, .ro 39 rs] [])), (7, .dec false), (24, .call (.mk (.bool (X.inQ a0 && X.inQ a1 && (X.inQ b0 && X.inQ b1))) [.own 3 [.int .i64 a0, .int .i64 a1, .int .i64 b0, .int .i64 b1]] [])), (4, .dec true)] = some (.mk (.tuple #[.bool false, .int .i64 5]) [.ro 39 cs, .ro 39 rs] [], true, [type_of% kC, (!decide (e = 0)) = false, CallSpec Try.prog 55 [(sB 0 4 4)] [.own 3 [.int .i64 a0, .int .i64 a1, .int .i64 b0, .int .i64 b1]] (.mk (.bool (X.inQ a0 && X.inQ a1 && (X.inQ b0 && X.inQ b1))) [.own 3 [.int .i64 a0, .int .i64 a1, .int .i64 b0, .int .i64 b1]] []), (!(X.inQ a0 && X.inQ a1 && (X.inQ b0 && X.inQ b1))) = true]) := by kernel_rfl
theorem Lane_ok_pfft : go (exec (Try.prog) (8) (23) ([fV (slB 0 n c) fl ce (slB 1 m d), pV a0 a1, pV b0 b1, .int .i64 r]) ([.ro 39 cs, .ro 39 rs])) [(15, .call (.mk (.int .i64 e) [.ro 39 cs, .ro 39 rs] [])), (7, .dec false), (24, .call (.mk (.bool (X.inQ a0 && X.inQ a1 && (X.inQ b0 && X.inQ b1))) [.own 3 [.int .i64 a0, .int .i64 a1, .int .i64 b0, .int .i64 b1]] [])), (4, .dec false), (3, .dec true)] = some (.mk (.tuple #[.bool false, .int .i64 1]) [.ro 39 cs, .ro 39 rs] [], true, [type_of% kC, (!decide (e = 0)) = false, CallSpec Try.prog 55 [(sB 0 4 4)] [.own 3 [.int .i64 a0, .int .i64 a1, .int .i64 b0, .int .i64 b1]] (.mk (.bool (X.inQ a0 && X.inQ a1 && (X.inQ b0 && X.inQ b1))) [.own 3 [.int .i64 a0, .int .i64 a1, .int .i64 b0, .int .i64 b1]] []), (!(X.inQ a0 && X.inQ a1 && (X.inQ b0 && X.inQ b1))) = false, decide (r < 0) = true]) := by kernel_rfl
theorem Lane_ok_pfff : go (exec (Try.prog) (8) (23) ([fV (slB 0 n c) fl ce (slB 1 m d), pV a0 a1, pV b0 b1, .int .i64 r]) ([.ro 39 cs, .ro 39 rs])) [(15, .call (.mk (.int .i64 e) [.ro 39 cs, .ro 39 rs] [])), (7, .dec false), (24, .call (.mk (.bool (X.inQ a0 && X.inQ a1 && (X.inQ b0 && X.inQ b1))) [.own 3 [.int .i64 a0, .int .i64 a1, .int .i64 b0, .int .i64 b1]] [])), (4, .dec false), (3, .dec false), (7, .call (.mk (.bool w) [.ro 39 cs, .ro 39 rs] []))] = some (.mk (.tuple #[.bool w, .int .i64 0]) [.ro 39 cs, .ro 39 rs] [], true, [type_of% kC, (!decide (e = 0)) = false, CallSpec Try.prog 55 [(sB 0 4 4)] [.own 3 [.int .i64 a0, .int .i64 a1, .int .i64 b0, .int .i64 b1]] (.mk (.bool (X.inQ a0 && X.inQ a1 && (X.inQ b0 && X.inQ b1))) [.own 3 [.int .i64 a0, .int .i64 a1, .int .i64 b0, .int .i64 b1]] []), (!(X.inQ a0 && X.inQ a1 && (X.inQ b0 && X.inQ b1))) = false, decide (r < 0) = false, CallSpec Try.prog 56 [.agg #[(sB 0 n c), .int .i64 fl, .int .i64 ce, (sB 1 m d)], (a2 a0 a1), (a2 b0 b1), .int .i64 r] [.ro 39 cs, .ro 39 rs] (.mk (.bool w) [.ro 39 cs, .ro 39 rs] [])]) := by kernel_rfl
theorem Lane_ok (R : Res) (k_pt : (h0 : ¬e = 0) → Res.le (.mk (.tuple #[.bool false, .int .i64 e]) [.ro 39 cs, .ro 39 rs] []) R) (k_pft : (h0 : ¬ (¬e = 0)) → (h1 : (!(X.inQ a0 && X.inQ a1 && (X.inQ b0 && X.inQ b1))) = true) → Res.le (.mk (.tuple #[.bool false, .int .i64 5]) [.ro 39 cs, .ro 39 rs] []) R) (k_pfft : (h0 : ¬ (¬e = 0)) → (h1 : ¬ ((!(X.inQ a0 && X.inQ a1 && (X.inQ b0 && X.inQ b1))) = true)) → (h2 : r < 0) → Res.le (.mk (.tuple #[.bool false, .int .i64 1]) [.ro 39 cs, .ro 39 rs] []) R) (k_pfff : (h0 : ¬ (¬e = 0)) → (h1 : ¬ ((!(X.inQ a0 && X.inQ a1 && (X.inQ b0 && X.inQ b1))) = true)) → (h2 : ¬ (r < 0)) → Res.le (.mk (.tuple #[.bool w, .int .i64 0]) [.ro 39 cs, .ro 39 rs] []) R) : CallSpec (Try.prog) (23) ([fV (slB 0 n c) fl ce (slB 1 m d), pV a0 a1, pV b0 b1, .int .i64 r]) ([.ro 39 cs, .ro 39 rs]) R := by
  by_cases h0 : ¬e = 0
  · exact (CallSpec.id (go_ok (exec_ok tnamed tcalm tmixed _ _ _ _) (Lane_ok_pt n c m d cs rs fl ce a0 a1 b0 b1 r e w kC kL ) (aC (kC) (aC ((by simpa using h0)) aN)))).le (k_pt h0)
  · by_cases h1 : (!(X.inQ a0 && X.inQ a1 && (X.inQ b0 && X.inQ b1))) = true
    · exact (CallSpec.id (go_ok (exec_ok tnamed tcalm tmixed _ _ _ _) (Lane_ok_pft n c m d cs rs fl ce a0 a1 b0 b1 r e w kC kL ) (aC (kC) (aC ((by simpa using h0)) (aC ((may4_done _ _ _ _)) (aC (h1) aN)))))).le (k_pft h0 h1)
    · by_cases h2 : r < 0
      · exact (CallSpec.id (go_ok (exec_ok tnamed tcalm tmixed _ _ _ _) (Lane_ok_pfft n c m d cs rs fl ce a0 a1 b0 b1 r e w kC kL ) (aC (kC) (aC ((by simpa using h0)) (aC ((may4_done _ _ _ _)) (aC ((bF h1)) (aC (dT h2) aN))))))).le (k_pfft h0 h1 h2)
      · exact (CallSpec.id (go_ok (exec_ok tnamed tcalm tmixed _ _ _ _) (Lane_ok_pfff n c m d cs rs fl ce a0 a1 b0 b1 r e w kC kL ) (aC (kC) (aC ((by simpa using h0)) (aC ((may4_done _ _ _ _)) (aC ((bF h1)) (aC (dF h2) (aC ((kL (by omega) (by simpa using h1) (by omega))) aN)))))))).le (k_pfff h0 h1 h2)
end
end Go.Proofs.Ytjalkjeldlchoaa.Ex
end
section
set_option linter.unusedSectionVars false
set_option linter.unusedSimpArgs false
set_option linter.unusedVariables false
namespace Go.Proofs.Ytjalkjeldlchoaa.X
open Go Go.RowKit
def roomV (r : Int) : Int := if 1073741825 < r then 1073741825 else r
def laneV (l : List S23) (a0 a1 b0 b1 r : Int) : Bool := withinV l (mn a0 b0 - roomV r) (mx a0 b0 + roomV r) (mn a1 b1 - roomV r) (mx a1 b1 + roomV r)
def upV (x0 x1 y0 y1 z0 z1 : Int) : Bool := decide (x0 > x1 ∨ y0 > y1 ∨ z0 > z1)
def holdE (l r : List S23) (fl ce x0 x1 y0 y1 z0 z1 : Int) : Int := if checkV l r fl ce = 0 then (if upV x0 x1 y0 y1 z0 z1 = true then 1 else 0) else checkV l r fl ce
def holdB (l r : List S23) (fl ce x0 x1 y0 y1 z0 z1 : Int) : Bool := decide (holdE l r fl ce x0 x1 y0 y1 z0 z1 = 0) && (decide (z0 ≥ fl) && (decide (z1 ≤ ce) && withinV l x0 x1 y0 y1))
def quad (a0 a1 b0 b1 : Int) : Bool := inQ a0 && inQ a1 && (inQ b0 && inQ b1)
def LaneE (l r : List S23) (fl ce a0 a1 b0 b1 k : Int) : Int := if checkV l r fl ce = 0 then (if quad a0 a1 b0 b1 = true then (if k < 0 then 1 else 0) else 5) else checkV l r fl ce
def LaneB (l r : List S23) (fl ce a0 a1 b0 b1 k : Int) : Bool := decide (LaneE l r fl ce a0 a1 b0 b1 k = 0) && laneV l a0 a1 b0 b1 k
theorem checkV_zero {l r : List S23} {fl ce : Int} (h : checkV l r fl ce = 0) : simpleV l = 0 ∧ limV r.length fl ce = 0 ∧ rallyV l r = 0 := by
  unfold checkV at h
  by_cases h1 : simpleV l = 0
  · rw [if_pos h1] at h
    by_cases h2 : limV r.length fl ce = 0
    · rw [if_pos h2] at h
      exact ⟨h1, h2, h⟩
    · rw [if_neg h2] at h
      exact absurd h h2
  · rw [if_neg h1] at h
    exact absurd h h1
theorem quad_in {a0 a1 b0 b1 : Int} (h : quad a0 a1 b0 b1 = true) : (InB a0 ∧ InB a1) ∧ (InB b0 ∧ InB b1) := by
  unfold quad at h
  simp only [Bool.and_eq_true, inQ_iff] at h
  exact h
end Go.Proofs.Ytjalkjeldlchoaa.X
namespace Go.Proofs.Ytjalkjeldlchoaa.Ex
open Go Go.RowKit Go.Proofs.Ytjalkjeldlchoaa.X
set_option linter.unusedVariables false
theorem res_2 {a a' b b' : Value} {hp : Hp} {wr : List Nat} (h : a = a') (g : b = b') : Res.le ⟨.tuple #[a, b], hp, wr⟩ ⟨.tuple #[a', b'], hp, wr⟩ := res_v (by rw [h, g])
def boxV (x0 x1 y0 y1 z0 z1 : Int) : Value := .agg #[.int .i64 x0, .int .i64 x1, .int .i64 y0, .int .i64 y1, .int .i64 z0, .int .i64 z1]
theorem gfar_done (a0 a1 b0 b1 : Int) : CallSpec Try.prog 37 [pV a0 a1, pV b0 b1] [] ⟨.tuple #[.int .i64 (farA a0 a1 b0 b1), .int .i64 (farE a0 a1 b0 b1)], [], []⟩ := by
  unfold farA farE
  refine gfar_ok _ _ _ _ _ (fun h => res_v ?_) (fun h => res_v ?_)
  · rw [Bool.not_not, Bool.or_eq_true] at h
    rw [if_pos h, if_pos h]
  · rw [Bool.not_not, Bool.or_eq_true] at h
    rw [if_neg h, if_neg h]
    simp only [w64_i]
    rfl
section
variable {l r : List S23} {c d : Nat} {fl ce : Int} (hm : l.length ≤ 9223372036854775807)
include hm
theorem holds_bb (x0 x1 y0 y1 z0 z1 : Int) : CallSpec Try.prog 21 [fV (slB 0 l.length c) fl ce (slB 1 r.length d), boxV x0 x1 y0 y1 z0 z1] [.ro 39 (pc l), .ro 39 (pc r)] ⟨.tuple #[.bool (holdB l r fl ce x0 x1 y0 y1 z0 z1), .int .i64 (holdE l r fl ce x0 x1 y0 y1 z0 z1)], [.ro 39 (pc l), .ro 39 (pc r)], []⟩ := by
  have kW : checkV l r fl ce = 0 → CallSpec Try.prog 53 [slB 0 l.length c, pV x0 x1, pV y0 y1] [.ro 39 (pc l)] ⟨.bool (withinV l x0 x1 y0 y1), [.ro 39 (pc l)], []⟩ := fun h => by
    have hs := simpleV_zero (checkV_zero h).1
    exact within_done x0 x1 y0 y1 (by omega) hs.2.1
  refine holds_ok _ _ _ _ _ _ _ _ _ _ _ _ _ _ _ _ (check_bb hm) kW _ (fun h => ?_) (fun h g => ?_) (fun h g k p => ?_) (fun h g k p => ?_) (fun h g k => ?_)
  all_goals unfold holdB
  · have e : holdE l r fl ce x0 x1 y0 y1 z0 z1 = checkV l r fl ce := by unfold holdE; rw [if_neg h]
    rw [e, decide_eq_false h, Bool.false_and]
    exact res_refl
  · have e : holdE l r fl ce x0 x1 y0 y1 z0 z1 = 1 := by unfold holdE upV; rw [if_pos (by omega), if_pos (decide_eq_true g)]
    rw [e]
    exact res_refl
  all_goals have e : holdE l r fl ce x0 x1 y0 y1 z0 z1 = 0 := by unfold holdE upV; rw [if_pos (by omega), if_neg (by rw [decide_eq_true_iff]; exact g)]
  all_goals rw [e]
  · rw [decide_eq_true k, decide_eq_true p]
    exact res_refl
  · rw [decide_eq_true k, decide_eq_false p]
    exact res_refl
  · rw [decide_eq_false k]
    exact res_refl
theorem lane_bb (hs : simpleV l = 0) (a0 a1 b0 b1 k : Int) (hq : quad a0 a1 b0 b1 = true) (hk : 0 ≤ k) : CallSpec Try.prog 56 [fV (slB 0 l.length c) fl ce (slB 1 r.length d), pV a0 a1, pV b0 b1, .int .i64 k] [.ro 39 (pc l), .ro 39 (pc r)] ⟨.bool (laneV l a0 a1 b0 b1 k), [.ro 39 (pc l), .ro 39 (pc r)], []⟩ := by
  have hz := simpleV_zero hs
  obtain ⟨⟨q1, q2⟩, q3, q4⟩ := quad_in hq
  unfold InB at *
  exact lane_ok _ _ _ _ _ _ l _ _ _ _ _ _ _ ⟨q1.1, q1.2, q2.1, q2.2⟩ ⟨q3.1, q3.2, q4.1, q4.2⟩ hk (fun x0 x1 y0 y1 => within_done x0 x1 y0 y1 (by omega) hz.2.1) _ (res_b (by unfold laneV roomV mn mx; rfl))
theorem Lane_bb (a0 a1 b0 b1 k : Int) : CallSpec Try.prog 23 [fV (slB 0 l.length c) fl ce (slB 1 r.length d), pV a0 a1, pV b0 b1, .int .i64 k] [.ro 39 (pc l), .ro 39 (pc r)] ⟨.tuple #[.bool (LaneB l r fl ce a0 a1 b0 b1 k), .int .i64 (LaneE l r fl ce a0 a1 b0 b1 k)], [.ro 39 (pc l), .ro 39 (pc r)], []⟩ := by
  refine Lane_ok _ _ _ _ _ _ _ _ _ _ _ _ _ _ _ (check_bb hm) (fun h q hk => lane_bb (c := c) (d := d) (r := r) (fl := fl) (ce := ce) hm (checkV_zero h).1 a0 a1 b0 b1 k q hk) _ (fun h => ?_) (fun h g => ?_) (fun h g p => ?_) (fun h g p => ?_)
  all_goals unfold LaneB
  · have e : LaneE l r fl ce a0 a1 b0 b1 k = checkV l r fl ce := by unfold LaneE; rw [if_neg h]
    rw [e, decide_eq_false h, Bool.false_and]
    exact res_refl
  · have e : LaneE l r fl ce a0 a1 b0 b1 k = 5 := by
      have q : quad a0 a1 b0 b1 = false := (Bool.not_eq_true' _).mp g
      unfold LaneE
      rw [if_pos (by omega), if_neg (by rw [q]; exact Bool.false_ne_true)]
    rw [e]
    exact res_refl
  · have e : LaneE l r fl ce a0 a1 b0 b1 k = 1 := by
      have q : quad a0 a1 b0 b1 = true := by rw [Bool.not_eq_true', Bool.not_eq_false] at g; exact g
      unfold LaneE
      rw [if_pos (by omega), if_pos q, if_pos p]
    rw [e]
    exact res_refl
  · have e : LaneE l r fl ce a0 a1 b0 b1 k = 0 := by
      have q : quad a0 a1 b0 b1 = true := by rw [Bool.not_eq_true', Bool.not_eq_false] at g; exact g
      unfold LaneE
      rw [if_pos (by omega), if_pos q, if_neg p]
    rw [e]
    exact res_refl
end
end Go.Proofs.Ytjalkjeldlchoaa.Ex
end
section
set_option linter.unusedSectionVars false
set_option linter.unusedSimpArgs false
set_option linter.unusedVariables false
namespace Go.Proofs.Ytjalkjeldlchoaa.Ex
open Go
set_option linter.unusedVariables false
noncomputable def ra_l : Code := loopAt Try.prog 25 0
theorem ra_l_calm : calmC ra_l = true := loopAt_calm tcalm 25 0
noncomputable def ra_lC : Code := .loop ra_l
def frRa (m d : Nat) (k b n i : Int) : Fr := frOf 61 [(2, .int .i64 k), (3, at_ 2 0), (4, at_ 3 0), (9, .int .i64 b), (10, .int .i64 n), (30, slB 1 m d), (31, .int .i64 m), (32, .int .i64 i)]
def hpRa (n c m d : Nat) (cs rs : List Value) (fl ce p q : Int) : Hp := [.ro 39 cs, .ro 39 rs, .own 24 [slB 0 n c, .int .i64 fl, .int .i64 ce, slB 1 m d], .own 39 [.int .i64 p, .int .i64 q]]
section
variable (n c m d : Nat) (cs rs : List Value) (fl ce p q k b ne i x y fa fe : Int) (w : Bool) (hi : 0 ≤ i ∧ i ≤ (↑m : Int)) (hm : m ≤ 8) (hl : List.length rs = m * 2) (hA : i < (↑m : Int) → ptAt rs i x y) (kF : i < (↑m : Int) → CallSpec Try.prog 37 [pV p q, (a2 x y)] [] (.mk (.tuple #[.int .i64 fa, .int .i64 fe]) [] [])) (kL : i < (↑m : Int) → CallSpec Try.prog 56 [fV (slB 0 n c) fl ce (slB 1 m d), pV p q, (a2 x y), .int .i64 k] [.ro 39 cs, .ro 39 rs] (.mk (.bool w) [.ro 39 cs, .ro 39 rs] []))
include n c m d cs rs fl ce p q k b ne i x y fa fe w hi hm hl hA kF kL
theorem ra_round_pttt : go (body (Try.prog) (8) (2) (8) (fun x_1 => [2, 3, 4, 9, 10, 30, 31, 32]) (ra_l) (frRa m d k b ne i) (hpRa n c m d cs rs fl ce p q)) [(2, .dec true), (1, Itm.must), (1, Itm.must), (0, Itm.val ((a2 x y))), (13, .call (.mk (.tuple #[.int .i64 fa, .int .i64 fe]) [] [])), (11, .dec true), (0, .dec true), (0, .dec true), (0, .dec true), (14, .call (.mk (.bool w) [.ro 39 cs, .ro 39 rs] [])), (5, .dec true), (5, Itm.val (.int .i64 (i + 1)))] = some (Out.mk Xt.normal (frOf 61 [(2, .int .i64 k), (3, (pA 2)), (4, (pA 3)), (9, .int .i64 i), (10, .int .i64 fa), (30, (sB 1 m d)), (31, .int .i64 (↑m : Int)), (32, .int .i64 (i + 1))]) [.ro 39 cs, .ro 39 rs, .own 24 [(sB 0 n c), .int .i64 fl, .int .i64 ce, (sB 1 m d)], .own 39 [.int .i64 p, .int .i64 q]] [], true, [decide (i < (↑m : Int)) = true, inside i m = true, decide (0 + Int.toNat i * 2 + 2 ≤ List.length rs) = true, Value.agg (List.toArray (List.take 2 (List.drop (0 + Int.toNat i * 2) rs))) = (a2 x y), CallSpec Try.prog 37 [(a2 p q), (a2 x y)] [] (.mk (.tuple #[.int .i64 fa, .int .i64 fe]) [] []), decide (b < 0) = true, decide (b < 0) = true, decide (b < 0) = true, decide (b < 0) = true, CallSpec Try.prog 56 [.agg #[(sB 0 n c), .int .i64 fl, .int .i64 ce, (sB 1 m d)], (a2 p q), (a2 x y), .int .i64 k] [.ro 39 cs, .ro 39 rs] (.mk (.bool w) [.ro 39 cs, .ro 39 rs] []), w = true, Value.int .i64 (IntKind.wrap .i64 (i + 1)) = .int .i64 (i + 1)]) := by kernel_rfl
theorem ra_round_pttf : go (body (Try.prog) (8) (2) (8) (fun x_1 => [2, 3, 4, 9, 10, 30, 31, 32]) (ra_l) (frRa m d k b ne i) (hpRa n c m d cs rs fl ce p q)) [(2, .dec true), (1, Itm.must), (1, Itm.must), (0, Itm.val ((a2 x y))), (13, .call (.mk (.tuple #[.int .i64 fa, .int .i64 fe]) [] [])), (11, .dec true), (0, .dec true), (0, .dec true), (0, .dec true), (14, .call (.mk (.bool w) [.ro 39 cs, .ro 39 rs] [])), (5, .dec false), (0, Itm.val (.int .i64 (i + 1)))] = some (Out.mk Xt.normal (frOf 61 [(2, .int .i64 k), (3, (pA 2)), (4, (pA 3)), (9, .int .i64 b), (10, .int .i64 ne), (30, (sB 1 m d)), (31, .int .i64 (↑m : Int)), (32, .int .i64 (i + 1))]) [.ro 39 cs, .ro 39 rs, .own 24 [(sB 0 n c), .int .i64 fl, .int .i64 ce, (sB 1 m d)], .own 39 [.int .i64 p, .int .i64 q]] [], true, [decide (i < (↑m : Int)) = true, inside i m = true, decide (0 + Int.toNat i * 2 + 2 ≤ List.length rs) = true, Value.agg (List.toArray (List.take 2 (List.drop (0 + Int.toNat i * 2) rs))) = (a2 x y), CallSpec Try.prog 37 [(a2 p q), (a2 x y)] [] (.mk (.tuple #[.int .i64 fa, .int .i64 fe]) [] []), decide (b < 0) = true, decide (b < 0) = true, decide (b < 0) = true, decide (b < 0) = true, CallSpec Try.prog 56 [.agg #[(sB 0 n c), .int .i64 fl, .int .i64 ce, (sB 1 m d)], (a2 p q), (a2 x y), .int .i64 k] [.ro 39 cs, .ro 39 rs] (.mk (.bool w) [.ro 39 cs, .ro 39 rs] []), w = false, Value.int .i64 (IntKind.wrap .i64 (i + 1)) = .int .i64 (i + 1)]) := by kernel_rfl
theorem ra_round_ptftt : go (body (Try.prog) (8) (2) (8) (fun x_1 => [2, 3, 4, 9, 10, 30, 31, 32]) (ra_l) (frRa m d k b ne i) (hpRa n c m d cs rs fl ce p q)) [(2, .dec true), (1, Itm.must), (1, Itm.must), (0, Itm.val ((a2 x y))), (13, .call (.mk (.tuple #[.int .i64 fa, .int .i64 fe]) [] [])), (11, .dec false), (1, .dec false), (1, .dec false), (1, .dec false), (2, .dec true), (2, .dec true), (2, .dec true), (2, .dec true), (1, .dec true), (0, .call (.mk (.bool w) [.ro 39 cs, .ro 39 rs] [])), (2, .dec true), (2, .dec true), (5, Itm.val (.int .i64 (i + 1)))] = some (Out.mk Xt.normal (frOf 61 [(2, .int .i64 k), (3, (pA 2)), (4, (pA 3)), (9, .int .i64 i), (10, .int .i64 fa), (30, (sB 1 m d)), (31, .int .i64 (↑m : Int)), (32, .int .i64 (i + 1))]) [.ro 39 cs, .ro 39 rs, .own 24 [(sB 0 n c), .int .i64 fl, .int .i64 ce, (sB 1 m d)], .own 39 [.int .i64 p, .int .i64 q]] [], true, [decide (i < (↑m : Int)) = true, inside i m = true, decide (0 + Int.toNat i * 2 + 2 ≤ List.length rs) = true, Value.agg (List.toArray (List.take 2 (List.drop (0 + Int.toNat i * 2) rs))) = (a2 x y), CallSpec Try.prog 37 [(a2 p q), (a2 x y)] [] (.mk (.tuple #[.int .i64 fa, .int .i64 fe]) [] []), decide (b < 0) = false, decide (b < 0) = false, decide (b < 0) = false, decide (b < 0) = false, decide (fa < ne) = true, decide (fa < ne) = true, decide (fa < ne) = true, decide (fa < ne) = true, decide (fa < ne) = true, CallSpec Try.prog 56 [.agg #[(sB 0 n c), .int .i64 fl, .int .i64 ce, (sB 1 m d)], (a2 p q), (a2 x y), .int .i64 k] [.ro 39 cs, .ro 39 rs] (.mk (.bool w) [.ro 39 cs, .ro 39 rs] []), decide (fa < ne) = true, w = true, Value.int .i64 (IntKind.wrap .i64 (i + 1)) = .int .i64 (i + 1)]) := by kernel_rfl
theorem ra_round_ptftf : go (body (Try.prog) (8) (2) (8) (fun x_1 => [2, 3, 4, 9, 10, 30, 31, 32]) (ra_l) (frRa m d k b ne i) (hpRa n c m d cs rs fl ce p q)) [(2, .dec true), (1, Itm.must), (1, Itm.must), (0, Itm.val ((a2 x y))), (13, .call (.mk (.tuple #[.int .i64 fa, .int .i64 fe]) [] [])), (11, .dec false), (1, .dec false), (1, .dec false), (1, .dec false), (2, .dec true), (2, .dec true), (2, .dec true), (2, .dec true), (1, .dec true), (0, .call (.mk (.bool w) [.ro 39 cs, .ro 39 rs] [])), (2, .dec true), (2, .dec false), (0, Itm.val (.int .i64 (i + 1)))] = some (Out.mk Xt.normal (frOf 61 [(2, .int .i64 k), (3, (pA 2)), (4, (pA 3)), (9, .int .i64 b), (10, .int .i64 ne), (30, (sB 1 m d)), (31, .int .i64 (↑m : Int)), (32, .int .i64 (i + 1))]) [.ro 39 cs, .ro 39 rs, .own 24 [(sB 0 n c), .int .i64 fl, .int .i64 ce, (sB 1 m d)], .own 39 [.int .i64 p, .int .i64 q]] [], true, [decide (i < (↑m : Int)) = true, inside i m = true, decide (0 + Int.toNat i * 2 + 2 ≤ List.length rs) = true, Value.agg (List.toArray (List.take 2 (List.drop (0 + Int.toNat i * 2) rs))) = (a2 x y), CallSpec Try.prog 37 [(a2 p q), (a2 x y)] [] (.mk (.tuple #[.int .i64 fa, .int .i64 fe]) [] []), decide (b < 0) = false, decide (b < 0) = false, decide (b < 0) = false, decide (b < 0) = false, decide (fa < ne) = true, decide (fa < ne) = true, decide (fa < ne) = true, decide (fa < ne) = true, decide (fa < ne) = true, CallSpec Try.prog 56 [.agg #[(sB 0 n c), .int .i64 fl, .int .i64 ce, (sB 1 m d)], (a2 p q), (a2 x y), .int .i64 k] [.ro 39 cs, .ro 39 rs] (.mk (.bool w) [.ro 39 cs, .ro 39 rs] []), decide (fa < ne) = true, w = false, Value.int .i64 (IntKind.wrap .i64 (i + 1)) = .int .i64 (i + 1)]) := by kernel_rfl
theorem ra_round_ptff : go (body (Try.prog) (8) (2) (8) (fun x_1 => [2, 3, 4, 9, 10, 30, 31, 32]) (ra_l) (frRa m d k b ne i) (hpRa n c m d cs rs fl ce p q)) [(2, .dec true), (1, Itm.must), (1, Itm.must), (0, Itm.val ((a2 x y))), (13, .call (.mk (.tuple #[.int .i64 fa, .int .i64 fe]) [] [])), (11, .dec false), (1, .dec false), (1, .dec false), (1, .dec false), (2, .dec false), (0, .dec false), (0, .dec false), (0, .dec false), (0, .dec false), (0, .dec false), (3, Itm.val (.int .i64 (i + 1)))] = some (Out.mk Xt.normal (frOf 61 [(2, .int .i64 k), (3, (pA 2)), (4, (pA 3)), (9, .int .i64 b), (10, .int .i64 ne), (30, (sB 1 m d)), (31, .int .i64 (↑m : Int)), (32, .int .i64 (i + 1))]) [.ro 39 cs, .ro 39 rs, .own 24 [(sB 0 n c), .int .i64 fl, .int .i64 ce, (sB 1 m d)], .own 39 [.int .i64 p, .int .i64 q]] [], true, [decide (i < (↑m : Int)) = true, inside i m = true, decide (0 + Int.toNat i * 2 + 2 ≤ List.length rs) = true, Value.agg (List.toArray (List.take 2 (List.drop (0 + Int.toNat i * 2) rs))) = (a2 x y), CallSpec Try.prog 37 [(a2 p q), (a2 x y)] [] (.mk (.tuple #[.int .i64 fa, .int .i64 fe]) [] []), decide (b < 0) = false, decide (b < 0) = false, decide (b < 0) = false, decide (b < 0) = false, decide (fa < ne) = false, decide (fa < ne) = false, decide (fa < ne) = false, decide (fa < ne) = false, decide (fa < ne) = false, decide (fa < ne) = false, Value.int .i64 (IntKind.wrap .i64 (i + 1)) = .int .i64 (i + 1)]) := by kernel_rfl
theorem ra_round_pf : go (body (Try.prog) (8) (2) (8) (fun x_1 => [2, 3, 4, 9, 10, 30, 31, 32]) (ra_l) (frRa m d k b ne i) (hpRa n c m d cs rs fl ce p q)) [(2, .dec false)] = some (Out.mk (Xt.exit 0) (frOf 61 [(2, .int .i64 k), (3, (pA 2)), (4, (pA 3)), (9, .int .i64 b), (10, .int .i64 ne), (30, (sB 1 m d)), (31, .int .i64 (↑m : Int)), (32, .int .i64 i)]) [.ro 39 cs, .ro 39 rs, .own 24 [(sB 0 n c), .int .i64 fl, .int .i64 ce, (sB 1 m d)], .own 39 [.int .i64 p, .int .i64 q]] [], true, [decide (i < (↑m : Int)) = false]) := by kernel_rfl
theorem ra_round (R : Out) (k_pttt : (h0 : i < (↑m : Int)) → (h1 : b < 0) → (h2 : w = true) → Out.le (Out.mk Xt.normal (frOf 61 [(2, .int .i64 k), (3, (pA 2)), (4, (pA 3)), (9, .int .i64 i), (10, .int .i64 fa), (30, (sB 1 m d)), (31, .int .i64 (↑m : Int)), (32, .int .i64 (i + 1))]) [.ro 39 cs, .ro 39 rs, .own 24 [(sB 0 n c), .int .i64 fl, .int .i64 ce, (sB 1 m d)], .own 39 [.int .i64 p, .int .i64 q]] []) R) (k_pttf : (h0 : i < (↑m : Int)) → (h1 : b < 0) → (h2 : ¬ (w = true)) → Out.le (Out.mk Xt.normal (frOf 61 [(2, .int .i64 k), (3, (pA 2)), (4, (pA 3)), (9, .int .i64 b), (10, .int .i64 ne), (30, (sB 1 m d)), (31, .int .i64 (↑m : Int)), (32, .int .i64 (i + 1))]) [.ro 39 cs, .ro 39 rs, .own 24 [(sB 0 n c), .int .i64 fl, .int .i64 ce, (sB 1 m d)], .own 39 [.int .i64 p, .int .i64 q]] []) R) (k_ptftt : (h0 : i < (↑m : Int)) → (h1 : ¬ (b < 0)) → (h2 : fa < ne) → (h3 : w = true) → Out.le (Out.mk Xt.normal (frOf 61 [(2, .int .i64 k), (3, (pA 2)), (4, (pA 3)), (9, .int .i64 i), (10, .int .i64 fa), (30, (sB 1 m d)), (31, .int .i64 (↑m : Int)), (32, .int .i64 (i + 1))]) [.ro 39 cs, .ro 39 rs, .own 24 [(sB 0 n c), .int .i64 fl, .int .i64 ce, (sB 1 m d)], .own 39 [.int .i64 p, .int .i64 q]] []) R) (k_ptftf : (h0 : i < (↑m : Int)) → (h1 : ¬ (b < 0)) → (h2 : fa < ne) → (h3 : ¬ (w = true)) → Out.le (Out.mk Xt.normal (frOf 61 [(2, .int .i64 k), (3, (pA 2)), (4, (pA 3)), (9, .int .i64 b), (10, .int .i64 ne), (30, (sB 1 m d)), (31, .int .i64 (↑m : Int)), (32, .int .i64 (i + 1))]) [.ro 39 cs, .ro 39 rs, .own 24 [(sB 0 n c), .int .i64 fl, .int .i64 ce, (sB 1 m d)], .own 39 [.int .i64 p, .int .i64 q]] []) R) (k_ptff : (h0 : i < (↑m : Int)) → (h1 : ¬ (b < 0)) → (h2 : ¬ (fa < ne)) → Out.le (Out.mk Xt.normal (frOf 61 [(2, .int .i64 k), (3, (pA 2)), (4, (pA 3)), (9, .int .i64 b), (10, .int .i64 ne), (30, (sB 1 m d)), (31, .int .i64 (↑m : Int)), (32, .int .i64 (i + 1))]) [.ro 39 cs, .ro 39 rs, .own 24 [(sB 0 n c), .int .i64 fl, .int .i64 ce, (sB 1 m d)], .own 39 [.int .i64 p, .int .i64 q]] []) R) (k_pf : (h0 : ¬ (i < (↑m : Int))) → Out.le (Out.mk (Xt.exit 0) (frOf 61 [(2, .int .i64 k), (3, (pA 2)), (4, (pA 3)), (9, .int .i64 b), (10, .int .i64 ne), (30, (sB 1 m d)), (31, .int .i64 (↑m : Int)), (32, .int .i64 i)]) [.ro 39 cs, .ro 39 rs, .own 24 [(sB 0 n c), .int .i64 fl, .int .i64 ce, (sB 1 m d)], .own 39 [.int .i64 p, .int .i64 q]] []) R) : CodeSpec (Try.prog) (2) (ra_l) (frRa m d k b ne i) (hpRa n c m d cs rs fl ce p q) R := by
  by_cases h0 : i < (↑m : Int)
  · by_cases h1 : b < 0
    · by_cases h2 : w = true
      · exact (CodeSpec.id (go_ok (body_ok tnamed tcalm tmixed _ _ _ _ _ _ ra_l_calm) (ra_round_pttt n c m d cs rs fl ce p q k b ne i x y fa fe w hi hm hl hA kF kL ) (aC (dT h0) (aC (inside_of (by omega)) (aC dO (aC ((hA (by omega))) (aC ((kF (by omega))) (aC (dT h1) (aC (dT h1) (aC (dT h1) (aC (dT h1) (aC ((kL (by omega))) (aC (h2) (aC (congrArg (Value.int _) (Go.IntWalk.i64_in _ (by omega))) aN)))))))))))))).le (k_pttt h0 h1 h2)
      · exact (CodeSpec.id (go_ok (body_ok tnamed tcalm tmixed _ _ _ _ _ _ ra_l_calm) (ra_round_pttf n c m d cs rs fl ce p q k b ne i x y fa fe w hi hm hl hA kF kL ) (aC (dT h0) (aC (inside_of (by omega)) (aC dO (aC ((hA (by omega))) (aC ((kF (by omega))) (aC (dT h1) (aC (dT h1) (aC (dT h1) (aC (dT h1) (aC ((kL (by omega))) (aC ((bF h2)) (aC (congrArg (Value.int _) (Go.IntWalk.i64_in _ (by omega))) aN)))))))))))))).le (k_pttf h0 h1 h2)
    · by_cases h2 : fa < ne
      · by_cases h3 : w = true
        · exact (CodeSpec.id (go_ok (body_ok tnamed tcalm tmixed _ _ _ _ _ _ ra_l_calm) (ra_round_ptftt n c m d cs rs fl ce p q k b ne i x y fa fe w hi hm hl hA kF kL ) (aC (dT h0) (aC (inside_of (by omega)) (aC dO (aC ((hA (by omega))) (aC ((kF (by omega))) (aC (dF h1) (aC (dF h1) (aC (dF h1) (aC (dF h1) (aC (dT h2) (aC (dT h2) (aC (dT h2) (aC (dT h2) (aC (dT h2) (aC ((kL (by omega))) (aC (dT h2) (aC (h3) (aC (congrArg (Value.int _) (Go.IntWalk.i64_in _ (by omega))) aN)))))))))))))))))))).le (k_ptftt h0 h1 h2 h3)
        · exact (CodeSpec.id (go_ok (body_ok tnamed tcalm tmixed _ _ _ _ _ _ ra_l_calm) (ra_round_ptftf n c m d cs rs fl ce p q k b ne i x y fa fe w hi hm hl hA kF kL ) (aC (dT h0) (aC (inside_of (by omega)) (aC dO (aC ((hA (by omega))) (aC ((kF (by omega))) (aC (dF h1) (aC (dF h1) (aC (dF h1) (aC (dF h1) (aC (dT h2) (aC (dT h2) (aC (dT h2) (aC (dT h2) (aC (dT h2) (aC ((kL (by omega))) (aC (dT h2) (aC ((bF h3)) (aC (congrArg (Value.int _) (Go.IntWalk.i64_in _ (by omega))) aN)))))))))))))))))))).le (k_ptftf h0 h1 h2 h3)
      · exact (CodeSpec.id (go_ok (body_ok tnamed tcalm tmixed _ _ _ _ _ _ ra_l_calm) (ra_round_ptff n c m d cs rs fl ce p q k b ne i x y fa fe w hi hm hl hA kF kL ) (aC (dT h0) (aC (inside_of (by omega)) (aC dO (aC ((hA (by omega))) (aC ((kF (by omega))) (aC (dF h1) (aC (dF h1) (aC (dF h1) (aC (dF h1) (aC (dF h2) (aC (dF h2) (aC (dF h2) (aC (dF h2) (aC (dF h2) (aC (dF h2) (aC (congrArg (Value.int _) (Go.IntWalk.i64_in _ (by omega))) aN)))))))))))))))))).le (k_ptff h0 h1 h2)
  · exact (CodeSpec.id (go_ok (body_ok tnamed tcalm tmixed _ _ _ _ _ _ ra_l_calm) (ra_round_pf n c m d cs rs fl ce p q k b ne i x y fa fe w hi hm hl hA kF kL ) (aC (dF h0) aN))).le (k_pf h0)
end
section
variable (n c m d : Nat) (cs rs : List Value) (fl ce p q k e b ne : Int) (kC : CallSpec Try.prog 18 [fV (slB 0 n c) fl ce (slB 1 m d)] [.ro 39 cs, .ro 39 rs] (.mk (.int .i64 e) [.ro 39 cs, .ro 39 rs] [])) (hL : e = 0 → (X.inQ p && X.inQ q) = true → 0 ≤ k → CodeSpec Try.prog 2 ra_lC (frRa m d k (-1) 0 0) (hpRa n c m d cs rs fl ce p q) (Out.mk (Xt.exit 0) (frRa m d k b ne (↑m : Int)) (hpRa n c m d cs rs fl ce p q) []))
include n c m d cs rs fl ce p q k e b ne kC hL
theorem ra_ok_pt : go (exec (Try.prog) (8) (25) ([fV (slB 0 n c) fl ce (slB 1 m d), pV p q, .int .i64 k]) ([.ro 39 cs, .ro 39 rs])) [(12, .call (.mk (.int .i64 e) [.ro 39 cs, .ro 39 rs] [])), (7, .dec true)] = some (.mk (.tuple #[.int .i64 0, .int .i64 e]) [.ro 39 cs, .ro 39 rs] [], true, [type_of% kC, (!decide (e = 0)) = true]) := by kernel_rfl
theorem ra_ok_pft : go (exec (Try.prog) (8) (25) ([fV (slB 0 n c) fl ce (slB 1 m d), pV p q, .int .i64 k]) ([.ro 39 cs, .ro 39 rs])) [(12, .call (.mk (.int .i64 e) [.ro 39 cs, .ro 39 rs] [])), (7, .dec false), (14, .call (.mk (.bool (X.inQ p && X.inQ q)) [.own 3 [.int .i64 p, .int .i64 q]] [])), (4, .dec true)] = some (.mk (.tuple #[.int .i64 0, .int .i64 5]) [.ro 39 cs, .ro 39 rs] [], true, [type_of% kC, (!decide (e = 0)) = false, CallSpec Try.prog 55 [(sB 0 2 2)] [.own 3 [.int .i64 p, .int .i64 q]] (.mk (.bool (X.inQ p && X.inQ q)) [.own 3 [.int .i64 p, .int .i64 q]] []), (!(X.inQ p && X.inQ q)) = true]) := by kernel_rfl
theorem ra_ok_pfft : go (exec (Try.prog) (8) (25) ([fV (slB 0 n c) fl ce (slB 1 m d), pV p q, .int .i64 k]) ([.ro 39 cs, .ro 39 rs])) [(12, .call (.mk (.int .i64 e) [.ro 39 cs, .ro 39 rs] [])), (7, .dec false), (14, .call (.mk (.bool (X.inQ p && X.inQ q)) [.own 3 [.int .i64 p, .int .i64 q]] [])), (4, .dec false), (3, .dec true)] = some (.mk (.tuple #[.int .i64 0, .int .i64 1]) [.ro 39 cs, .ro 39 rs] [], true, [type_of% kC, (!decide (e = 0)) = false, CallSpec Try.prog 55 [(sB 0 2 2)] [.own 3 [.int .i64 p, .int .i64 q]] (.mk (.bool (X.inQ p && X.inQ q)) [.own 3 [.int .i64 p, .int .i64 q]] []), (!(X.inQ p && X.inQ q)) = false, decide (k < 0) = true]) := by kernel_rfl
theorem ra_ok_pfff : go (exec (Try.prog) (8) (25) ([fV (slB 0 n c) fl ce (slB 1 m d), pV p q, .int .i64 k]) ([.ro 39 cs, .ro 39 rs])) [(12, .call (.mk (.int .i64 e) [.ro 39 cs, .ro 39 rs] [])), (7, .dec false), (14, .call (.mk (.bool (X.inQ p && X.inQ q)) [.own 3 [.int .i64 p, .int .i64 q]] [])), (4, .dec false), (3, .dec false), (9, Itm.loop [2, 3, 4, 9, 10, 30, 31, 32] (Out.mk (Xt.exit 0) (frOf 61 [(2, .int .i64 k), (3, (pA 2)), (4, (pA 3)), (9, .int .i64 b), (10, .int .i64 ne), (30, (sB 1 m d)), (31, .int .i64 (↑m : Int)), (32, .int .i64 (↑m : Int))]) [.ro 39 cs, .ro 39 rs, .own 24 [(sB 0 n c), .int .i64 fl, .int .i64 ce, (sB 1 m d)], .own 39 [.int .i64 p, .int .i64 q]] []))] = some (.mk (.tuple #[.int .i64 b, .int .i64 0]) [.ro 39 cs, .ro 39 rs] [], true, [type_of% kC, (!decide (e = 0)) = false, CallSpec Try.prog 55 [(sB 0 2 2)] [.own 3 [.int .i64 p, .int .i64 q]] (.mk (.bool (X.inQ p && X.inQ q)) [.own 3 [.int .i64 p, .int .i64 q]] []), (!(X.inQ p && X.inQ q)) = false, decide (k < 0) = false, CodeSpec Try.prog (List.length [Blk.ro 39 cs, Blk.ro 39 rs]) ra_lC (frOf 61 [(2, .int .i64 k), (3, (pA 2)), (4, (pA 3)), (9, .int .i64 (-1)), (10, .int .i64 0), (30, (sB 1 m d)), (31, .int .i64 (↑m : Int)), (32, .int .i64 0)]) [.ro 39 cs, .ro 39 rs, .own 24 [(sB 0 n c), .int .i64 fl, .int .i64 ce, (sB 1 m d)], .own 39 [.int .i64 p, .int .i64 q]] (Out.mk (Xt.exit 0) (frOf 61 [(2, .int .i64 k), (3, (pA 2)), (4, (pA 3)), (9, .int .i64 b), (10, .int .i64 ne), (30, (sB 1 m d)), (31, .int .i64 (↑m : Int)), (32, .int .i64 (↑m : Int))]) [.ro 39 cs, .ro 39 rs, .own 24 [(sB 0 n c), .int .i64 fl, .int .i64 ce, (sB 1 m d)], .own 39 [.int .i64 p, .int .i64 q]] [])]) := by kernel_rfl
theorem ra_ok (R : Res) (k_pt : (h0 : ¬e = 0) → Res.le (.mk (.tuple #[.int .i64 0, .int .i64 e]) [.ro 39 cs, .ro 39 rs] []) R) (k_pft : (h0 : ¬ (¬e = 0)) → (h1 : (!(X.inQ p && X.inQ q)) = true) → Res.le (.mk (.tuple #[.int .i64 0, .int .i64 5]) [.ro 39 cs, .ro 39 rs] []) R) (k_pfft : (h0 : ¬ (¬e = 0)) → (h1 : ¬ ((!(X.inQ p && X.inQ q)) = true)) → (h2 : k < 0) → Res.le (.mk (.tuple #[.int .i64 0, .int .i64 1]) [.ro 39 cs, .ro 39 rs] []) R) (k_pfff : (h0 : ¬ (¬e = 0)) → (h1 : ¬ ((!(X.inQ p && X.inQ q)) = true)) → (h2 : ¬ (k < 0)) → Res.le (.mk (.tuple #[.int .i64 b, .int .i64 0]) [.ro 39 cs, .ro 39 rs] []) R) : CallSpec (Try.prog) (25) ([fV (slB 0 n c) fl ce (slB 1 m d), pV p q, .int .i64 k]) ([.ro 39 cs, .ro 39 rs]) R := by
  by_cases h0 : ¬e = 0
  · exact (CallSpec.id (go_ok (exec_ok tnamed tcalm tmixed _ _ _ _) (ra_ok_pt n c m d cs rs fl ce p q k e b ne kC hL ) (aC (kC) (aC ((by simpa using h0)) aN)))).le (k_pt h0)
  · by_cases h1 : (!(X.inQ p && X.inQ q)) = true
    · exact (CallSpec.id (go_ok (exec_ok tnamed tcalm tmixed _ _ _ _) (ra_ok_pft n c m d cs rs fl ce p q k e b ne kC hL ) (aC (kC) (aC ((by simpa using h0)) (aC ((may2_done _ _)) (aC (h1) aN)))))).le (k_pft h0 h1)
    · by_cases h2 : k < 0
      · exact (CallSpec.id (go_ok (exec_ok tnamed tcalm tmixed _ _ _ _) (ra_ok_pfft n c m d cs rs fl ce p q k e b ne kC hL ) (aC (kC) (aC ((by simpa using h0)) (aC ((may2_done _ _)) (aC ((bF h1)) (aC (dT h2) aN))))))).le (k_pfft h0 h1 h2)
      · exact (CallSpec.id (go_ok (exec_ok tnamed tcalm tmixed _ _ _ _) (ra_ok_pfff n c m d cs rs fl ce p q k e b ne kC hL ) (aC (kC) (aC ((by simpa using h0)) (aC ((may2_done _ _)) (aC ((bF h1)) (aC (dF h2) (aC ((hL (by omega) (by simpa using h1) (by omega))) aN)))))))).le (k_pfff h0 h1 h2)
end
end Go.Proofs.Ytjalkjeldlchoaa.Ex
end
section
set_option linter.unusedSectionVars false
set_option linter.unusedSimpArgs false
set_option linter.unusedVariables false
namespace Go.Proofs.Ytjalkjeldlchoaa.X
open Go Go.RowKit Go.Proofs.Ytjalkjeldlchoaa.Ex
def nearV (L : S23 → Bool) (p q : Int) : List S23 → Nat → Int × Int → Int × Int
  | [], _, s => s
  | x :: r, i, s => nearV L p q r (i + 1) (if (s.1 < 0 ∨ farA p q x.f0 x.f1 < s.2) ∧ L x = true then ((i : Int), farA p q x.f0 x.f1) else s)
def RallyE (l r : List S23) (fl ce p q k : Int) : Int := if checkV l r fl ce = 0 then (if (inQ p && inQ q) = true then (if k < 0 then 1 else 0) else 5) else checkV l r fl ce
def RallyA (L : S23 → Bool) (l r : List S23) (fl ce p q k : Int) : Int := if RallyE l r fl ce p q k = 0 then (nearV L p q r 0 (-1, 0)).1 else 0
theorem rallyV_in {l : List S23} : ∀ {r : List S23}, rallyV l r = 0 → ∀ i, i < r.length → InB (pt r i).f0 ∧ InB (pt r i).f1
  | [], _, i, h => absurd h (Nat.not_lt_zero i)
  | p :: r, h, i, hi => by
    unfold rallyV at h
    by_cases ho : outP ⟨p.f0, p.f1⟩ = true
    · rw [if_pos ho] at h; omega
    · rw [if_neg ho] at h
      by_cases hs : sideV l p.f0 p.f1 = 1
      · rw [if_pos hs] at h
        cases i with
        | zero => exact (outP_eq _ _).1 (Bool.eq_false_iff.2 ho)
        | succ i => exact rallyV_in h i (Nat.lt_of_succ_lt_succ hi)
      · rw [if_neg hs] at h; omega
end Go.Proofs.Ytjalkjeldlchoaa.X
namespace Go.Proofs.Ytjalkjeldlchoaa.Ex
open Go Go.RowKit Go.Proofs.Ytjalkjeldlchoaa.X
set_option linter.unusedVariables false
theorem ra_rounds {l r : List S23} {c d : Nat} {fl ce p q k : Int} (hc : checkV l r fl ce = 0) (hp : (inQ p && inQ q) = true) (hk : 0 ≤ k) : ∀ (j i : Nat) (s : Int × Int), i + j = r.length →
    LoopSpec Try.prog 2 ra_l (frRa r.length d k s.1 s.2 i) (hpRa l.length c r.length d (pc l) (pc r) fl ce p q) ⟨.exit 0, frRa r.length d k (nearV (fun x => laneV l p q x.f0 x.f1 k) p q (r.drop i) i s).1 (nearV (fun x => laneV l p q x.f0 x.f1 k) p q (r.drop i) i s).2 r.length, hpRa l.length c r.length d (pc l) (pc r) fl ce p q, []⟩
  | 0, i, s, hi => by
    obtain rfl : i = r.length := by omega
    rw [List.drop_length]
    have hm := limV_le (checkV_zero hc).2.1
    refine .last (ra_round l.length c r.length d (pc l) (pc r) fl ce p q k s.1 s.2 r.length 0 0 0 0 false (by omega) hm (pc_len r) (fun h => by omega) (fun h => by omega) (fun h => by omega) _ (fun h => by omega) (fun h => by omega) (fun h => by omega) (fun h => by omega) (fun h => by omega) (fun _ => out_eq)) (by intro h; cases h)
  | j + 1, i, s, hi => by
    have z := checkV_zero hc
    have hm := limV_le z.2.1
    have hlt : i < r.length := by omega
    have hin := rallyV_in z.2.2 i hlt
    have hz := simpleV_zero z.1
    simp only [Bool.and_eq_true, inQ_iff] at hp
    have hq : quad p q (pt r i).f0 (pt r i).f1 = true := by
      unfold quad
      simp only [Bool.and_eq_true, inQ_iff]
      exact ⟨hp, hin⟩
    have round := ra_round l.length c r.length d (pc l) (pc r) fl ce p q k s.1 s.2 i _ _ _ _ _ (by omega) hm (pc_len r) (fun _ => ptAt_of hlt) (fun _ => gfar_done p q (pt r i).f0 (pt r i).f1) (fun _ => lane_bb (c := c) (d := d) (r := r) (fl := fl) (ce := ce) (by omega) z.1 p q (pt r i).f0 (pt r i).f1 k hq hk)
    have ih := ra_rounds (c := c) (d := d) (k := k) hc (by simp only [Bool.and_eq_true, inQ_iff]; exact hp) hk j (i + 1)
    rw [drop_pt hlt, nearV]
    have key : ∀ s' : Int × Int, s' = (if (s.1 < 0 ∨ farA p q (pt r i).f0 (pt r i).f1 < s.2) ∧ laneV l p q (pt r i).f0 (pt r i).f1 k = true then ((i : Int), farA p q (pt r i).f0 (pt r i).f1) else s) →
        CodeSpec Try.prog 2 ra_l (frRa r.length d k s.1 s.2 i) (hpRa l.length c r.length d (pc l) (pc r) fl ce p q) ⟨.normal, frRa r.length d k s'.1 s'.2 ((i + 1 : Nat) : Int), hpRa l.length c r.length d (pc l) (pc r) fl ce p q, []⟩ := fun s' hs => by
      have fe : ∀ {u : Int × Int}, u = s' → Out.le ⟨.normal, frRa r.length d k u.1 u.2 ((i : Int) + 1), hpRa l.length c r.length d (pc l) (pc r) fl ce p q, []⟩ ⟨.normal, frRa r.length d k s'.1 s'.2 ((i + 1 : Nat) : Int), hpRa l.length c r.length d (pc l) (pc r) fl ce p q, []⟩ := fun h => by rw [h]; exact out_eq
      refine round _ (fun _ h g => fe (u := ((i : Int), farA p q (pt r i).f0 (pt r i).f1)) ?_) (fun _ h g => fe (u := s) ?_) (fun _ h g t => fe (u := ((i : Int), farA p q (pt r i).f0 (pt r i).f1)) ?_) (fun _ h g t => fe (u := s) ?_) (fun _ h g => fe (u := s) ?_) (fun h => absurd (by omega) h)
      · rw [hs, if_pos ⟨.inl h, g⟩]
      · rw [hs, if_neg (fun a => g a.2)]
      · rw [hs, if_pos ⟨.inr g, t⟩]
      · rw [hs, if_neg (fun a => t a.2)]
      · rw [hs, if_neg (fun a => a.1.elim h g)]
    exact .more (key _ rfl) rfl (ih _ (by omega)) (fun j hj => by cases hj)
theorem rally_bb {l r : List S23} {c d : Nat} {fl ce : Int} (hm : l.length ≤ 9223372036854775807) (p q k : Int) : CallSpec Try.prog 25 [fV (slB 0 l.length c) fl ce (slB 1 r.length d), pV p q, .int .i64 k] [.ro 39 (pc l), .ro 39 (pc r)] ⟨.tuple #[.int .i64 (RallyA (fun x => laneV l p q x.f0 x.f1 k) l r fl ce p q k), .int .i64 (RallyE l r fl ce p q k)], [.ro 39 (pc l), .ro 39 (pc r)], []⟩ := by
  refine ra_ok _ _ _ _ _ _ _ _ _ _ _ _ _ _ (check_bb hm) (fun h1 h2 h3 => (ra_rounds (c := c) (d := d) h1 h2 h3 r.length 0 (-1, 0) (by omega)).code) _ (fun h => ?_) (fun h g => ?_) (fun h g t => ?_) (fun h g t => ?_)
  all_goals unfold RallyA
  · have e : RallyE l r fl ce p q k = checkV l r fl ce := by unfold RallyE; rw [if_neg h]
    rw [e, if_neg h]
    exact res_refl
  · have e : RallyE l r fl ce p q k = 5 := by
      unfold RallyE
      rw [Bool.not_eq_true'] at g
      rw [if_pos (by omega), if_neg (by rw [g]; exact Bool.false_ne_true)]
    rw [e]
    exact res_refl
  · have e : RallyE l r fl ce p q k = 1 := by
      unfold RallyE
      rw [Bool.not_eq_true', Bool.not_eq_false] at g
      rw [if_pos (by omega), if_pos g, if_pos t]
    rw [e]
    exact res_refl
  · have e : RallyE l r fl ce p q k = 0 := by
      unfold RallyE
      rw [Bool.not_eq_true', Bool.not_eq_false] at g
      rw [if_pos (by omega), if_pos g, if_neg t]
    rw [e]
    exact res_refl
end Go.Proofs.Ytjalkjeldlchoaa.Ex
end
section
set_option linter.unusedSectionVars false
set_option linter.unusedSimpArgs false
set_option linter.unusedVariables false
namespace Go.Proofs.Ytjalkjeldlchoaa.Ex
open Go
set_option linter.unusedVariables false
abbrev bsV (b k : Nat) : Value := .slice (some ⟨b, 0, none⟩) k k
section
variable (k : Nat) (bs : List Value) (n : Int) (hk : k ≤ 1000000) (hl : List.length bs = k)
include k bs n hk hl
theorem put_ok_p : go (exec (Try.prog) (8) (60) ([bsV 0 k, .int .i64 n]) ([.own 5 bs])) [(8, Itm.val (.int .i64 (n / 256))), (3, Itm.val (.int .i64 (n / 65536))), (3, Itm.val (.int .i64 (n / 16777216))), (11, Itm.must), (0, .dec false), (0, Itm.must)] = some (.mk ((sB 1 (k + 4) (k + 4))) [.dead, .own 5 (bs ++ [.int .u8 (IntKind.wrap IntKind.u8 n), .int .u8 (IntKind.wrap IntKind.u8 (n / 256)), .int .u8 (IntKind.wrap IntKind.u8 (n / 65536)), .int .u8 (IntKind.wrap IntKind.u8 (n / 16777216))])] [0], true, [Value.int .i64 (Int.fdiv n 256) = .int .i64 (n / 256), Value.int .i64 (Int.fdiv n 65536) = .int .i64 (n / 65536), Value.int .i64 (Int.fdiv n 16777216) = .int .i64 (n / 16777216), (true && decide ((k + 4) * 1 ≤ 140737488355328) && decide (k + 4 ≤ 140737488355328) && decide (k * 1 ≤ List.length bs)) = true, decide (k + 4 ≤ k) = false, decide (List.length bs = k * 1) = true]) := by kernel_rfl
theorem put_ok (R : Res) (k_p : Res.le (.mk ((sB 1 (k + 4) (k + 4))) [.dead, .own 5 (bs ++ [.int .u8 (IntKind.wrap IntKind.u8 n), .int .u8 (IntKind.wrap IntKind.u8 (n / 256)), .int .u8 (IntKind.wrap IntKind.u8 (n / 65536)), .int .u8 (IntKind.wrap IntKind.u8 (n / 16777216))])] [0]) R) : CallSpec (Try.prog) (60) ([bsV 0 k, .int .i64 n]) ([.own 5 bs]) R := by
  exact (CallSpec.id (go_ok (exec_ok tnamed tcalm tmixed _ _ _ _) (put_ok_p k bs n hk hl ) (aC (congrArg (Value.int _) (Int.fdiv_eq_ediv_of_nonneg _ (by omega))) (aC (congrArg (Value.int _) (Int.fdiv_eq_ediv_of_nonneg _ (by omega))) (aC (congrArg (Value.int _) (Int.fdiv_eq_ediv_of_nonneg _ (by omega))) (aC ((by simp [ByteArray.size_append, ByteArray.size_extract, sz_mk] <;> omega)) (aC dN (aC dO aN)))))))).le (k_p )
end
end Go.Proofs.Ytjalkjeldlchoaa.Ex
end
section
set_option linter.unusedSectionVars false
set_option linter.unusedSimpArgs false
set_option linter.unusedVariables false
namespace Go.Proofs.Ytjalkjeldlchoaa.X
open Go
def b4 (n : Int) : List Value := [.int .u8 (IntKind.wrap .u8 n), .int .u8 (IntKind.wrap .u8 (n / 256)), .int .u8 (IntKind.wrap .u8 (n / 65536)), .int .u8 (IntKind.wrap .u8 (n / 16777216))]
theorem b4_len (n : Int) : (b4 n).length = 4 := rfl
def b1 (n : Int) : List Value := [.int .u8 (IntKind.wrap .u8 n)]
theorem b1_len (n : Int) : (b1 n).length = 1 := rfl
end Go.Proofs.Ytjalkjeldlchoaa.X
namespace Go.Proofs.Ytjalkjeldlchoaa.Ex
open Go Go.RowKit Go.Proofs.Ytjalkjeldlchoaa.X
set_option linter.unusedVariables false
theorem put_done (k : Nat) (bs : List Value) (n : Int) (hk : k ≤ 1000000) (hl : bs.length = k) : CallSpec Try.prog 60 [bsV 0 k, .int .i64 n] [.own 5 bs] ⟨bsV 1 (k + 4), [.dead, .own 5 (bs ++ b4 n)], [0]⟩ := put_ok k bs n hk hl _ res_refl
end Go.Proofs.Ytjalkjeldlchoaa.Ex
end
section
set_option linter.unusedSectionVars false
set_option linter.unusedSimpArgs false
set_option linter.unusedVariables false
namespace Go.Proofs.Ytjalkjeldlchoaa.Ex
open Go
set_option linter.unusedVariables false
noncomputable def fp_l : Code := loopAt Try.prog 59 0
theorem fp_l_calm : calmC fp_l = true := loopAt_calm tcalm 59 0
noncomputable def fp_lC : Code := .loop fp_l
def frF1 (k n c : Nat) (i : Int) : Fr := frOf 28 [(0, bsV 1 k), (13, slB 0 n c), (14, .int .i64 n), (15, .int .i64 i)]
def frF2 (k n c : Nat) (i : Int) : Fr := frOf 28 [(0, bsV 2 k), (13, slB 1 n c), (14, .int .i64 n), (15, .int .i64 i)]
section
variable (k n c : Nat) (bs cs : List Value) (i x y : Int) (hi : 0 ≤ i ∧ i ≤ (↑n : Int)) (hk : k ≤ 900000) (hn : n ≤ 1000) (hb : List.length bs = k) (hl : List.length cs = n * 2) (hA : i < (↑n : Int) → ptAt cs i x y)
include k n c bs cs i x y hi hk hn hb hl hA
theorem fp1_round_pt : go (body (Try.prog) (8) (1) (8) (fun x_1 => [0, 13, 14, 15]) (fp_l) (frF1 k n c i) ([.ro 39 cs, .own 5 bs])) [(2, .dec true), (0, Itm.must), (1, Itm.must), (0, Itm.val ((a2 x y))), (13, .call (.mk ((sB 1 (k + 4) (k + 4))) [.dead, .own 5 (bs ++ X.b4 x)] [0])), (6, .call (.mk ((sB 1 (k + 4 + 4) (k + 4 + 4))) [.dead, .own 5 (bs ++ X.b4 x ++ X.b4 y)] [0])), (4, Itm.val (.int .i64 (i + 1)))] = some (Out.mk Xt.normal (frOf 28 [(0, (sB 1 (k + 4 + 4) (k + 4 + 4))), (13, (sB 0 n c)), (14, .int .i64 (↑n : Int)), (15, .int .i64 (i + 1))]) [.ro 39 cs, .own 5 (bs ++ X.b4 x ++ X.b4 y)] [], true, [decide (i < (↑n : Int)) = true, inside i n = true, decide (0 + Int.toNat i * 2 + 2 ≤ List.length cs) = true, Value.agg (List.toArray (List.take 2 (List.drop (0 + Int.toNat i * 2) cs))) = (a2 x y), CallSpec Try.prog 60 [(sB 0 k k), .int .i64 x] [.own 5 bs] (.mk ((sB 1 (k + 4) (k + 4))) [.dead, .own 5 (bs ++ X.b4 x)] [0]), CallSpec Try.prog 60 [(sB 0 (k + 4) (k + 4)), .int .i64 y] [.own 5 (bs ++ X.b4 x)] (.mk ((sB 1 (k + 4 + 4) (k + 4 + 4))) [.dead, .own 5 (bs ++ X.b4 x ++ X.b4 y)] [0]), Value.int .i64 (IntKind.wrap .i64 (i + 1)) = .int .i64 (i + 1)]) := by kernel_rfl
theorem fp1_round_pf : go (body (Try.prog) (8) (1) (8) (fun x_1 => [0, 13, 14, 15]) (fp_l) (frF1 k n c i) ([.ro 39 cs, .own 5 bs])) [(2, .dec false)] = some (Out.mk (Xt.exit 0) (frOf 28 [(0, (sB 1 k k)), (13, (sB 0 n c)), (14, .int .i64 (↑n : Int)), (15, .int .i64 i)]) [.ro 39 cs, .own 5 bs] [], true, [decide (i < (↑n : Int)) = false]) := by kernel_rfl
theorem fp1_round (R : Out) (k_pt : (h0 : i < (↑n : Int)) → Out.le (Out.mk Xt.normal (frOf 28 [(0, (sB 1 (k + 4 + 4) (k + 4 + 4))), (13, (sB 0 n c)), (14, .int .i64 (↑n : Int)), (15, .int .i64 (i + 1))]) [.ro 39 cs, .own 5 (bs ++ X.b4 x ++ X.b4 y)] []) R) (k_pf : (h0 : ¬ (i < (↑n : Int))) → Out.le (Out.mk (Xt.exit 0) (frOf 28 [(0, (sB 1 k k)), (13, (sB 0 n c)), (14, .int .i64 (↑n : Int)), (15, .int .i64 i)]) [.ro 39 cs, .own 5 bs] []) R) : CodeSpec (Try.prog) (1) (fp_l) (frF1 k n c i) ([.ro 39 cs, .own 5 bs]) R := by
  by_cases h0 : i < (↑n : Int)
  · exact (CodeSpec.id (go_ok (body_ok tnamed tcalm tmixed _ _ _ _ _ _ fp_l_calm) (fp1_round_pt k n c bs cs i x y hi hk hn hb hl hA ) (aC (dT h0) (aC (inside_of (by omega)) (aC dO (aC ((hA (by omega))) (aC ((put_done _ _ _ (by omega) (by (try simp only [List.length_append, X.b4_len]); omega))) (aC ((put_done _ _ _ (by omega) (by (try simp only [List.length_append, X.b4_len]); omega))) (aC (congrArg (Value.int _) (Go.IntWalk.i64_in _ (by omega))) aN))))))))).le (k_pt h0)
  · exact (CodeSpec.id (go_ok (body_ok tnamed tcalm tmixed _ _ _ _ _ _ fp_l_calm) (fp1_round_pf k n c bs cs i x y hi hk hn hb hl hA ) (aC (dF h0) aN))).le (k_pf h0)
end
section
variable (k n c : Nat) (bs cs : List Value) (i x y : Int) (hi : 0 ≤ i ∧ i ≤ (↑n : Int)) (hk : k ≤ 900000) (hn : n ≤ 1000) (hb : List.length bs = k) (hl : List.length cs = n * 2) (hA : i < (↑n : Int) → ptAt cs i x y)
include k n c bs cs i x y hi hk hn hb hl hA
theorem fp2_round_pt : go (body (Try.prog) (8) (2) (8) (fun x_1 => [0, 13, 14, 15]) (fp_l) (frF2 k n c i) ([.dead, .ro 39 cs, .own 5 bs])) [(2, .dec true), (0, Itm.must), (1, Itm.must), (0, Itm.val ((a2 x y))), (13, .call (.mk ((sB 1 (k + 4) (k + 4))) [.dead, .own 5 (bs ++ X.b4 x)] [0])), (6, .call (.mk ((sB 1 (k + 4 + 4) (k + 4 + 4))) [.dead, .own 5 (bs ++ X.b4 x ++ X.b4 y)] [0])), (4, Itm.val (.int .i64 (i + 1)))] = some (Out.mk Xt.normal (frOf 28 [(0, (sB 2 (k + 4 + 4) (k + 4 + 4))), (13, (sB 1 n c)), (14, .int .i64 (↑n : Int)), (15, .int .i64 (i + 1))]) [.dead, .ro 39 cs, .own 5 (bs ++ X.b4 x ++ X.b4 y)] [], true, [decide (i < (↑n : Int)) = true, inside i n = true, decide (0 + Int.toNat i * 2 + 2 ≤ List.length cs) = true, Value.agg (List.toArray (List.take 2 (List.drop (0 + Int.toNat i * 2) cs))) = (a2 x y), CallSpec Try.prog 60 [(sB 0 k k), .int .i64 x] [.own 5 bs] (.mk ((sB 1 (k + 4) (k + 4))) [.dead, .own 5 (bs ++ X.b4 x)] [0]), CallSpec Try.prog 60 [(sB 0 (k + 4) (k + 4)), .int .i64 y] [.own 5 (bs ++ X.b4 x)] (.mk ((sB 1 (k + 4 + 4) (k + 4 + 4))) [.dead, .own 5 (bs ++ X.b4 x ++ X.b4 y)] [0]), Value.int .i64 (IntKind.wrap .i64 (i + 1)) = .int .i64 (i + 1)]) := by kernel_rfl
theorem fp2_round_pf : go (body (Try.prog) (8) (2) (8) (fun x_1 => [0, 13, 14, 15]) (fp_l) (frF2 k n c i) ([.dead, .ro 39 cs, .own 5 bs])) [(2, .dec false)] = some (Out.mk (Xt.exit 0) (frOf 28 [(0, (sB 2 k k)), (13, (sB 1 n c)), (14, .int .i64 (↑n : Int)), (15, .int .i64 i)]) [.dead, .ro 39 cs, .own 5 bs] [], true, [decide (i < (↑n : Int)) = false]) := by kernel_rfl
theorem fp2_round (R : Out) (k_pt : (h0 : i < (↑n : Int)) → Out.le (Out.mk Xt.normal (frOf 28 [(0, (sB 2 (k + 4 + 4) (k + 4 + 4))), (13, (sB 1 n c)), (14, .int .i64 (↑n : Int)), (15, .int .i64 (i + 1))]) [.dead, .ro 39 cs, .own 5 (bs ++ X.b4 x ++ X.b4 y)] []) R) (k_pf : (h0 : ¬ (i < (↑n : Int))) → Out.le (Out.mk (Xt.exit 0) (frOf 28 [(0, (sB 2 k k)), (13, (sB 1 n c)), (14, .int .i64 (↑n : Int)), (15, .int .i64 i)]) [.dead, .ro 39 cs, .own 5 bs] []) R) : CodeSpec (Try.prog) (2) (fp_l) (frF2 k n c i) ([.dead, .ro 39 cs, .own 5 bs]) R := by
  by_cases h0 : i < (↑n : Int)
  · exact (CodeSpec.id (go_ok (body_ok tnamed tcalm tmixed _ _ _ _ _ _ fp_l_calm) (fp2_round_pt k n c bs cs i x y hi hk hn hb hl hA ) (aC (dT h0) (aC (inside_of (by omega)) (aC dO (aC ((hA (by omega))) (aC ((put_done _ _ _ (by omega) (by (try simp only [List.length_append, X.b4_len]); omega))) (aC ((put_done _ _ _ (by omega) (by (try simp only [List.length_append, X.b4_len]); omega))) (aC (congrArg (Value.int _) (Go.IntWalk.i64_in _ (by omega))) aN))))))))).le (k_pt h0)
  · exact (CodeSpec.id (go_ok (body_ok tnamed tcalm tmixed _ _ _ _ _ _ fp_l_calm) (fp2_round_pf k n c bs cs i x y hi hk hn hb hl hA ) (aC (dF h0) aN))).le (k_pf h0)
end
section
variable (n c k : Nat) (cs es : List Value) (hL : CodeSpec Try.prog 1 fp_lC (frF1 1 n c 0) [.ro 39 cs, .own 5 (X.b1 (↑n : Int))] (Out.mk (Xt.exit 0) (frF1 k n c (↑n : Int)) [.ro 39 cs, .own 5 es] []))
include n c k cs es hL
theorem fp_nb_p : go (exec (Try.prog) (8) (59) ([sN, slB 0 n c]) ([.ro 39 cs])) [(23, Itm.loop [0, 13, 14, 15] (Out.mk (Xt.exit 0) (frOf 28 [(0, (sB 1 k k)), (13, (sB 0 n c)), (14, .int .i64 (↑n : Int)), (15, .int .i64 (↑n : Int))]) [.ro 39 cs, .own 5 es] []))] = some (.mk ((sB 1 k k)) [.ro 39 cs, .own 5 es] [], true, [type_of% hL]) := by kernel_rfl
theorem fp_nb (R : Res) (k_p : Res.le (.mk ((sB 1 k k)) [.ro 39 cs, .own 5 es] []) R) : CallSpec (Try.prog) (59) ([sN, slB 0 n c]) ([.ro 39 cs]) R := by
  exact (CallSpec.id (go_ok (exec_ok tnamed tcalm tmixed _ _ _ _) (fp_nb_p n c k cs es hL ) (aC (hL) aN))).le (k_p )
end
section
variable (q n c k : Nat) (bs cs es : List Value) (hq : q ≤ 900000) (hb : List.length bs = q) (hL : CodeSpec Try.prog 2 fp_lC (frF2 (q + 1) n c 0) [.dead, .ro 39 cs, .own 5 (bs ++ X.b1 (↑n : Int))] (Out.mk (Xt.exit 0) (frF2 k n c (↑n : Int)) [.dead, .ro 39 cs, .own 5 es] []))
include q n c k bs cs es hq hb hL
theorem fp_bb_p : go (exec (Try.prog) (8) (59) ([bsV 0 q, slB 1 n c]) ([.own 5 bs, .ro 39 cs])) [(14, Itm.must), (0, .dec false), (0, Itm.must), (7, Itm.loop [0, 13, 14, 15] (Out.mk (Xt.exit 0) (frOf 28 [(0, (sB 2 k k)), (13, (sB 1 n c)), (14, .int .i64 (↑n : Int)), (15, .int .i64 (↑n : Int))]) [.dead, .ro 39 cs, .own 5 es] []))] = some (.mk ((sB 2 k k)) [.dead, .ro 39 cs, .own 5 es] [0], true, [(true && decide ((q + 1) * 1 ≤ 140737488355328) && decide (q + 1 ≤ 140737488355328) && decide (q * 1 ≤ List.length bs)) = true, decide (q + 1 ≤ q) = false, decide (List.length bs = q * 1) = true, type_of% hL]) := by kernel_rfl
theorem fp_bb (R : Res) (k_p : Res.le (.mk ((sB 2 k k)) [.dead, .ro 39 cs, .own 5 es] [0]) R) : CallSpec (Try.prog) (59) ([bsV 0 q, slB 1 n c]) ([.own 5 bs, .ro 39 cs]) R := by
  exact (CallSpec.id (go_ok (exec_ok tnamed tcalm tmixed _ _ _ _) (fp_bb_p q n c k bs cs es hq hb hL ) (aC ((by simp [ByteArray.size_append, ByteArray.size_extract, sz_mk] <;> omega)) (aC dN (aC dO (aC (hL) aN)))))).le (k_p )
end
end Go.Proofs.Ytjalkjeldlchoaa.Ex
end
section
set_option linter.unusedSectionVars false
set_option linter.unusedSimpArgs false
set_option linter.unusedVariables false
namespace Go.Proofs.Ytjalkjeldlchoaa.X
open Go
def pbs (l : List S23) : List Value := l.flatMap fun p => b4 p.f0 ++ b4 p.f1
def pb (l : List S23) : List Value := b1 l.length ++ pbs l
theorem pbs_len : ∀ l : List S23, (pbs l).length = 8 * l.length
  | [] => rfl
  | p :: l => by
    show (b4 p.f0 ++ b4 p.f1 ++ pbs l).length = _
    rw [List.length_append, List.length_append, b4_len, b4_len, pbs_len l, List.length_cons]
    omega
theorem pb_len (l : List S23) : (pb l).length = 1 + 8 * l.length := by rw [pb, List.length_append, b1_len, pbs_len]
end Go.Proofs.Ytjalkjeldlchoaa.X
namespace Go.Proofs.Ytjalkjeldlchoaa.Ex
open Go Go.RowKit Go.Proofs.Ytjalkjeldlchoaa.X
set_option linter.unusedVariables false
theorem fp1_rounds {l : List S23} {c : Nat} (hn : l.length ≤ 1000) : ∀ (m i k : Nat) (bs : List Value), i + m = l.length → bs.length = k → k + 8 * m ≤ 900000 →
    LoopSpec Try.prog 1 fp_l (frF1 k l.length c i) [.ro 39 (pc l), .own 5 bs] ⟨.exit 0, frF1 (k + 8 * m) l.length c l.length, [.ro 39 (pc l), .own 5 (bs ++ pbs (l.drop i))], []⟩
  | 0, i, k, bs, hi, hb, hk => by
    obtain rfl : i = l.length := by omega
    rw [List.drop_length]
    show LoopSpec _ _ _ _ _ ⟨.exit 0, frF1 k l.length c l.length, [.ro 39 (pc l), .own 5 (bs ++ [])], []⟩
    rw [List.append_nil]
    exact .last (fp1_round k l.length c bs (pc l) l.length 0 0 (by omega) (by omega) hn hb (pc_len l) (fun h => by omega) _ (fun h => by omega) (fun _ => out_eq)) (by intro h; cases h)
  | m + 1, i, k, bs, hi, hb, hk => by
    have hlt : i < l.length := by omega
    have ih := fp1_rounds (c := c) hn m (i + 1) (k + 4 + 4) (bs ++ b4 (pt l i).f0 ++ b4 (pt l i).f1) (by omega) (by rw [List.length_append, List.length_append, b4_len, b4_len]; omega) (by omega)
    rw [show k + 4 + 4 + 8 * m = k + 8 * (m + 1) by omega] at ih
    have e : bs ++ b4 (pt l i).f0 ++ b4 (pt l i).f1 ++ pbs (l.drop (i + 1)) = bs ++ pbs (l.drop i) := by
      rw [drop_pt hlt]
      show _ = bs ++ (b4 (pt l i).f0 ++ b4 (pt l i).f1 ++ pbs (l.drop (i + 1)))
      simp only [List.append_assoc]
    rw [e] at ih
    exact .more (o1 := ⟨.normal, frF1 (k + 4 + 4) l.length c ((i + 1 : Nat) : Int), [.ro 39 (pc l), .own 5 (bs ++ b4 (pt l i).f0 ++ b4 (pt l i).f1)], []⟩) (fp1_round k l.length c bs (pc l) i _ _ (by omega) (by omega) hn hb (pc_len l) (fun _ => ptAt_of hlt) _ (fun _ => out_eq) (fun h => absurd (by omega) h)) rfl ih (fun j hj => by cases hj)
theorem fp2_rounds {l : List S23} {c : Nat} (hn : l.length ≤ 1000) : ∀ (m i k : Nat) (bs : List Value), i + m = l.length → bs.length = k → k + 8 * m ≤ 900000 →
    LoopSpec Try.prog 2 fp_l (frF2 k l.length c i) [.dead, .ro 39 (pc l), .own 5 bs] ⟨.exit 0, frF2 (k + 8 * m) l.length c l.length, [.dead, .ro 39 (pc l), .own 5 (bs ++ pbs (l.drop i))], []⟩
  | 0, i, k, bs, hi, hb, hk => by
    obtain rfl : i = l.length := by omega
    rw [List.drop_length]
    show LoopSpec _ _ _ _ _ ⟨.exit 0, frF2 k l.length c l.length, [.dead, .ro 39 (pc l), .own 5 (bs ++ [])], []⟩
    rw [List.append_nil]
    exact .last (fp2_round k l.length c bs (pc l) l.length 0 0 (by omega) (by omega) hn hb (pc_len l) (fun h => by omega) _ (fun h => by omega) (fun _ => out_eq)) (by intro h; cases h)
  | m + 1, i, k, bs, hi, hb, hk => by
    have hlt : i < l.length := by omega
    have ih := fp2_rounds (c := c) hn m (i + 1) (k + 4 + 4) (bs ++ b4 (pt l i).f0 ++ b4 (pt l i).f1) (by omega) (by rw [List.length_append, List.length_append, b4_len, b4_len]; omega) (by omega)
    rw [show k + 4 + 4 + 8 * m = k + 8 * (m + 1) by omega] at ih
    have e : bs ++ b4 (pt l i).f0 ++ b4 (pt l i).f1 ++ pbs (l.drop (i + 1)) = bs ++ pbs (l.drop i) := by
      rw [drop_pt hlt]
      show _ = bs ++ (b4 (pt l i).f0 ++ b4 (pt l i).f1 ++ pbs (l.drop (i + 1)))
      simp only [List.append_assoc]
    rw [e] at ih
    exact .more (o1 := ⟨.normal, frF2 (k + 4 + 4) l.length c ((i + 1 : Nat) : Int), [.dead, .ro 39 (pc l), .own 5 (bs ++ b4 (pt l i).f0 ++ b4 (pt l i).f1)], []⟩) (fp2_round k l.length c bs (pc l) i _ _ (by omega) (by omega) hn hb (pc_len l) (fun _ => ptAt_of hlt) _ (fun _ => out_eq) (fun h => absurd (by omega) h)) rfl ih (fun j hj => by cases hj)
theorem points_nb {l : List S23} {c : Nat} (hn : l.length ≤ 1000) : CallSpec Try.prog 59 [.slice none 0 0, slB 0 l.length c] [.ro 39 (pc l)] ⟨bsV 1 (1 + 8 * l.length), [.ro 39 (pc l), .own 5 (pb l)], []⟩ :=
  fp_nb _ _ _ _ _ (fp1_rounds hn l.length 0 1 (b1 l.length) (by omega) rfl (by omega)).code _ res_refl
theorem points_bb {r : List S23} {c q : Nat} {bs : List Value} (hn : r.length ≤ 1000) (hb : bs.length = q) (hq : q ≤ 100000) : CallSpec Try.prog 59 [bsV 0 q, slB 1 r.length c] [.own 5 bs, .ro 39 (pc r)] ⟨bsV 2 (q + 1 + 8 * r.length), [.dead, .ro 39 (pc r), .own 5 (bs ++ pb r)], [0]⟩ := by
  have h := (fp2_rounds (c := c) hn r.length 0 (q + 1) (bs ++ b1 r.length) (by omega) (by rw [List.length_append, b1_len, hb]) (by omega)).code
  rw [List.append_assoc] at h
  exact fp_bb _ _ _ _ _ _ _ (by omega) hb h _ res_refl
end Go.Proofs.Ytjalkjeldlchoaa.Ex
end
section
set_option linter.unusedSectionVars false
set_option linter.unusedSimpArgs false
set_option linter.unusedVariables false
namespace Go.Proofs.Ytjalkjeldlchoaa.Ex
open Go
set_option linter.unusedVariables false
section
variable (n c m d : Nat) (cs rs : List Value) (fl ce e : Int) (he : e ≠ 0) (kC : CallSpec Try.prog 18 [fV (slB 0 n c) fl ce (slB 1 m d)] [.ro 39 cs, .ro 39 rs] (.mk (.int .i64 e) [.ro 39 cs, .ro 39 rs] []))
include n c m d cs rs fl ce e he kC
theorem enc_e_p : go (exec (Try.prog) (8) (27) ([fV (slB 0 n c) fl ce (slB 1 m d)]) ([.ro 39 cs, .ro 39 rs])) [(9, .call (.mk (.int .i64 e) [.ro 39 cs, .ro 39 rs] [])), (7, .dec true)] = some (.mk (.tuple #[.string (ByteArray.mk #[]), .int .i64 e]) [.ro 39 cs, .ro 39 rs] [], true, [type_of% kC, (!decide (e = 0)) = true]) := by kernel_rfl
theorem enc_e (R : Res) (k_p : Res.le (.mk (.tuple #[.string (ByteArray.mk #[]), .int .i64 e]) [.ro 39 cs, .ro 39 rs] []) R) : CallSpec (Try.prog) (27) ([fV (slB 0 n c) fl ce (slB 1 m d)]) ([.ro 39 cs, .ro 39 rs]) R := by
  exact (CallSpec.id (go_ok (exec_ok tnamed tcalm tmixed _ _ _ _) (enc_e_p n c m d cs rs fl ce e he kC ) (aC (kC) (aC (congrArg not dN) aN)))).le (k_p )
end
section
variable (n c m d k q : Nat) (cs rs es gs : List Value) (fl ce : Int) (hk : k ≤ 80000) (hE : List.length es = k) (hQ : q ≤ 100000) (hG : List.length gs = q) (hI : List.all (List.take (q * 1) (List.drop 0 gs)) (isInt IntKind.u8) = true) (kC : CallSpec Try.prog 18 [fV (slB 0 n c) fl ce (slB 1 m d)] [.ro 39 cs, .ro 39 rs] (.mk (.int .i64 0) [.ro 39 cs, .ro 39 rs] [])) (kP : CallSpec Try.prog 59 [sN, slB 0 n c] [.ro 39 cs] (.mk (bsV 1 k) [.ro 39 cs, .own 5 es] [])) (kR : CallSpec Try.prog 59 [bsV 0 (k + 4 + 4), slB 1 m d] [.own 5 (es ++ X.b4 fl ++ X.b4 ce), .ro 39 rs] (.mk (bsV 2 q) [.dead, .ro 39 rs, .own 5 gs] [0]))
include n c m d k q cs rs es gs fl ce hk hE hQ hG hI kC kP kR
theorem enc_0_p : go (exec (Try.prog) (8) (27) ([fV (slB 0 n c) fl ce (slB 1 m d)]) ([.ro 39 cs, .ro 39 rs])) [(9, .call (.mk (.int .i64 0) [.ro 39 cs, .ro 39 rs] [])), (11, .call (.mk ((sB 1 k k)) [.ro 39 cs, .own 5 es] [])), (9, .call (.mk ((sB 1 (k + 4) (k + 4))) [.dead, .own 5 (es ++ X.b4 fl)] [0])), (6, .call (.mk ((sB 1 (k + 4 + 4) (k + 4 + 4))) [.dead, .own 5 (es ++ X.b4 fl ++ X.b4 ce)] [0])), (8, .call (.mk ((sB 2 q q)) [.dead, .ro 39 rs, .own 5 gs] [0])), (2, Itm.must), (0, Itm.must)] = some (.mk (.tuple #[.string (ByteArray.mk (List.toArray (List.map unbyte (List.take (q * 1) (List.drop 0 gs))))), .int .i64 0]) [.ro 39 cs, .ro 39 rs] [], true, [type_of% kC, type_of% kP, CallSpec Try.prog 60 [(sB 0 k k), .int .i64 fl] [.own 5 es] (.mk ((sB 1 (k + 4) (k + 4))) [.dead, .own 5 (es ++ X.b4 fl)] [0]), CallSpec Try.prog 60 [(sB 0 (k + 4) (k + 4)), .int .i64 ce] [.own 5 (es ++ X.b4 fl)] (.mk ((sB 1 (k + 4 + 4) (k + 4 + 4))) [.dead, .own 5 (es ++ X.b4 fl ++ X.b4 ce)] [0]), type_of% kR, decide (0 + q * 1 ≤ List.length gs) = true, List.all (List.take (q * 1) (List.drop 0 gs)) (isInt IntKind.u8) = true]) := by kernel_rfl
theorem enc_0 (R : Res) (k_p : Res.le (.mk (.tuple #[.string (ByteArray.mk (List.toArray (List.map unbyte (List.take (q * 1) (List.drop 0 gs))))), .int .i64 0]) [.ro 39 cs, .ro 39 rs] []) R) : CallSpec (Try.prog) (27) ([fV (slB 0 n c) fl ce (slB 1 m d)]) ([.ro 39 cs, .ro 39 rs]) R := by
  exact (CallSpec.id (go_ok (exec_ok tnamed tcalm tmixed _ _ _ _) (enc_0_p n c m d k q cs rs es gs fl ce hk hE hQ hG hI kC kP kR ) (aC (kC) (aC (kP) (aC ((put_done _ _ _ (by omega) (by (try simp only [List.length_append, X.b4_len]); omega))) (aC ((put_done _ _ _ (by omega) (by (try simp only [List.length_append, X.b4_len]); omega))) (aC (kR) (aC dO (aC ((by omega)) aN))))))))).le (k_p )
end
end Go.Proofs.Ytjalkjeldlchoaa.Ex
end
section
set_option linter.unusedSectionVars false
set_option linter.unusedSimpArgs false
set_option linter.unusedVariables false
namespace Go.Proofs.Ytjalkjeldlchoaa.X
open Go Go.RowKit Go.Proofs.Ytjalkjeldlchoaa.Ex
def encV (l r : List S23) (fl ce : Int) : List Value := pb l ++ b4 fl ++ b4 ce ++ pb r
def strB (bs : List Value) : ByteArray := ⟨(bs.map unbyte).toArray⟩
def encT (l r : List S23) (fl ce : Int) : ByteArray := if checkV l r fl ce = 0 then strB (encV l r fl ce) else ⟨#[]⟩
theorem all_b4 (n : Int) : (b4 n).all (isInt .u8) = true := rfl
theorem all_b1 (n : Int) : (b1 n).all (isInt .u8) = true := rfl
theorem all_pbs : ∀ l : List S23, (pbs l).all (isInt .u8) = true
  | [] => rfl
  | p :: l => by
    show (b4 p.f0 ++ b4 p.f1 ++ pbs l).all _ = true
    rw [List.all_append, List.all_append, all_b4, all_b4, all_pbs l]
    rfl
theorem all_pb (l : List S23) : (pb l).all (isInt .u8) = true := by rw [pb, List.all_append, all_b1, all_pbs]; rfl
theorem all_enc (l r : List S23) (fl ce : Int) : (encV l r fl ce).all (isInt .u8) = true := by
  unfold encV
  simp only [List.all_append, all_pb, all_b4, Bool.and_self]
theorem enc_len (l r : List S23) (fl ce : Int) : (encV l r fl ce).length = 1 + 8 * l.length + 4 + 4 + 1 + 8 * r.length := by
  unfold encV
  simp only [List.length_append, pb_len, b4_len]
  omega
end Go.Proofs.Ytjalkjeldlchoaa.X
namespace Go.Proofs.Ytjalkjeldlchoaa.Ex
open Go Go.RowKit Go.Proofs.Ytjalkjeldlchoaa.X
set_option linter.unusedVariables false
theorem take_all {α : Type} {l : List α} {q : Nat} (h : l.length = q) : List.take (q * 1) (List.drop 0 l) = l := by rw [List.drop_zero, List.take_of_length_le (by omega)]
theorem encode_bb {l r : List S23} {c d : Nat} {fl ce : Int} (hm : l.length ≤ 9223372036854775807) : CallSpec Try.prog 27 [fV (slB 0 l.length c) fl ce (slB 1 r.length d)] [.ro 39 (pc l), .ro 39 (pc r)] ⟨.tuple #[.string (encT l r fl ce), .int .i64 (checkV l r fl ce)], [.ro 39 (pc l), .ro 39 (pc r)], []⟩ := by
  have kC := check_bb (l := l) (r := r) (c := c) (d := d) (fl := fl) (ce := ce) hm
  unfold encT
  by_cases h : checkV l r fl ce = 0
  · have z := checkV_zero h
    have hl := simpleV_zero z.1
    have hr := limV_le z.2.1
    rw [if_pos h, h]
    rw [h] at kC
    have kP := points_nb (l := l) (c := c) (by omega)
    have kR := points_bb (r := r) (c := d) (q := 1 + 8 * l.length + 4 + 4) (bs := pb l ++ b4 fl ++ b4 ce) (by omega) (by rw [List.length_append, List.length_append, pb_len, b4_len, b4_len]) (by omega)
    have el := enc_len l r fl ce
    refine enc_0 _ _ _ _ (1 + 8 * l.length) _ _ _ _ _ _ _ (by omega) (pb_len l) (by omega) (enc_len l r fl ce) ?_ kC kP kR _ (res_2 ?_ rfl)
    · rw [take_all (enc_len l r fl ce)]
      exact all_enc l r fl ce
    · rw [take_all (enc_len l r fl ce)]
      rfl
  · rw [if_neg h]
    exact enc_e _ _ _ _ _ _ _ _ _ h kC _ res_refl
end Go.Proofs.Ytjalkjeldlchoaa.Ex
end
section
set_option linter.unusedSectionVars false
set_option linter.unusedSimpArgs false
set_option linter.unusedVariables false
namespace Go.Proofs.Ytjalkjeldlchoaa.Ex
open Go
set_option linter.unusedVariables false
noncomputable def ri_l : Code := loopAt Try.prog 50 0
theorem ri_l_calm : calmC ri_l = true := loopAt_calm tcalm 50 0
noncomputable def ri_lC : Code := .loop ri_l
def frI (n c : Nat) (v i : Int) : Fr := frOf 54 [(0, sl0 n c), (3, at_ 1 0), (5, .int .i64 v), (6, .int .i64 i)]
def frIR : Fr := frOf 54 [(4, .int .i64 0)]
def keepI : Xt → List Nat
  | .ret => [4]
  | _ => [0, 3, 5, 6]
def hpI (cs : List Value) (p q : Int) : Hp := [.ro 39 cs, .own 39 [.int .i64 p, .int .i64 q]]
section
variable (n c : Nat) (cs : List Value) (v i x y b d p q : Int) (hv : -1 ≤ v ∧ v ≤ 1) (hi : 0 ≤ i ∧ i ≤ (↑n : Int)) (hn : n ≤ 64) (hl : List.length cs = n * 2) (hA : i < (↑n : Int) → ptAt cs i x y) (kB : i < (↑n : Int) → CallSpec Try.prog 72 [sl0 n c, .int .i64 i] [.ro 39 cs] (.mk (pV b d) [.ro 39 cs] []))
include n c cs v i x y b d p q hv hi hn hl hA kB
theorem ri_round_ptt : go (body (Try.prog) (8) (1) (8) (keepI) (ri_l) (frI n c v i) (hpI cs p q)) [(5, .dec true), (2, Itm.must), (1, Itm.must), (0, Itm.val ((a2 x y))), (10, .call (.mk ((a2 b d)) [.ro 39 cs] [])), (16, .call (.mk (.bool (X.onV x y b d p q)) [] [])), (3, .dec true)] = some (Out.mk Xt.ret (frOf 54 [(4, .int .i64 0)]) [.ro 39 cs] [], true, [decide (i < (↑n : Int)) = true, inside i n = true, decide (0 + Int.toNat i * 2 + 2 ≤ List.length cs) = true, Value.agg (List.toArray (List.take 2 (List.drop (0 + Int.toNat i * 2) cs))) = (a2 x y), CallSpec Try.prog 72 [(sB 0 n c), .int .i64 i] [.ro 39 cs] (.mk ((a2 b d)) [.ro 39 cs] []), CallSpec Try.prog 76 [(a2 x y), (a2 b d), (a2 p q)] [] (.mk (.bool (X.onV x y b d p q)) [] []), X.onV x y b d p q = true]) := by kernel_rfl
theorem ri_round_ptft : go (body (Try.prog) (8) (1) (8) (keepI) (ri_l) (frI n c v i) (hpI cs p q)) [(5, .dec true), (2, Itm.must), (1, Itm.must), (0, Itm.val ((a2 x y))), (10, .call (.mk ((a2 b d)) [.ro 39 cs] [])), (16, .call (.mk (.bool (X.onV x y b d p q)) [] [])), (3, .dec false), (20, .dec true), (1, Itm.val (.int .i64 (i + 1)))] = some (Out.mk Xt.normal (frOf 54 [(0, (sB 0 n c)), (3, (pA 1)), (5, .int .i64 v), (6, .int .i64 (i + 1))]) [.ro 39 cs, .own 39 [.int .i64 p, .int .i64 q]] [], true, [decide (i < (↑n : Int)) = true, inside i n = true, decide (0 + Int.toNat i * 2 + 2 ≤ List.length cs) = true, Value.agg (List.toArray (List.take 2 (List.drop (0 + Int.toNat i * 2) cs))) = (a2 x y), CallSpec Try.prog 72 [(sB 0 n c), .int .i64 i] [.ro 39 cs] (.mk ((a2 b d)) [.ro 39 cs] []), CallSpec Try.prog 76 [(a2 x y), (a2 b d), (a2 p q)] [] (.mk (.bool (X.onV x y b d p q)) [] []), X.onV x y b d p q = false, (decide (y ≤ q) == decide (d ≤ q)) = true, Value.int .i64 (IntKind.wrap .i64 (i + 1)) = .int .i64 (i + 1)]) := by kernel_rfl
theorem ri_round_ptfftt : go (body (Try.prog) (8) (1) (8) (keepI) (ri_l) (frI n c v i) (hpI cs p q)) [(5, .dec true), (2, Itm.must), (1, Itm.must), (0, Itm.val ((a2 x y))), (10, .call (.mk ((a2 b d)) [.ro 39 cs] [])), (16, .call (.mk (.bool (X.onV x y b d p q)) [] [])), (3, .dec false), (20, .dec false), (10, .dec true), (30, .call (.mk (.int .i64 (X.crossW b d x y p q)) [] [])), (4, .dec true), (1, Itm.val (.int .i64 (0 - v))), (3, Itm.val (.int .i64 (i + 1)))] = some (Out.mk Xt.normal (frOf 54 [(0, (sB 0 n c)), (3, (pA 1)), (5, .int .i64 (0 - v)), (6, .int .i64 (i + 1))]) [.ro 39 cs, .own 39 [.int .i64 p, .int .i64 q]] [], true, [decide (i < (↑n : Int)) = true, inside i n = true, decide (0 + Int.toNat i * 2 + 2 ≤ List.length cs) = true, Value.agg (List.toArray (List.take 2 (List.drop (0 + Int.toNat i * 2) cs))) = (a2 x y), CallSpec Try.prog 72 [(sB 0 n c), .int .i64 i] [.ro 39 cs] (.mk ((a2 b d)) [.ro 39 cs] []), CallSpec Try.prog 76 [(a2 x y), (a2 b d), (a2 p q)] [] (.mk (.bool (X.onV x y b d p q)) [] []), X.onV x y b d p q = false, (decide (y ≤ q) == decide (d ≤ q)) = false, decide (y > d) = true, CallSpec Try.prog 77 [(a2 b d), (a2 x y), (a2 p q)] [] (.mk (.int .i64 (X.crossW b d x y p q)) [] []), decide (X.crossW b d x y p q > 0) = true, Value.int .i64 (IntKind.wrap .i64 (0 - v)) = .int .i64 (0 - v), Value.int .i64 (IntKind.wrap .i64 (i + 1)) = .int .i64 (i + 1)]) := by kernel_rfl
theorem ri_round_ptfftf : go (body (Try.prog) (8) (1) (8) (keepI) (ri_l) (frI n c v i) (hpI cs p q)) [(5, .dec true), (2, Itm.must), (1, Itm.must), (0, Itm.val ((a2 x y))), (10, .call (.mk ((a2 b d)) [.ro 39 cs] [])), (16, .call (.mk (.bool (X.onV x y b d p q)) [] [])), (3, .dec false), (20, .dec false), (10, .dec true), (30, .call (.mk (.int .i64 (X.crossW b d x y p q)) [] [])), (4, .dec false), (1, Itm.val (.int .i64 (i + 1)))] = some (Out.mk Xt.normal (frOf 54 [(0, (sB 0 n c)), (3, (pA 1)), (5, .int .i64 v), (6, .int .i64 (i + 1))]) [.ro 39 cs, .own 39 [.int .i64 p, .int .i64 q]] [], true, [decide (i < (↑n : Int)) = true, inside i n = true, decide (0 + Int.toNat i * 2 + 2 ≤ List.length cs) = true, Value.agg (List.toArray (List.take 2 (List.drop (0 + Int.toNat i * 2) cs))) = (a2 x y), CallSpec Try.prog 72 [(sB 0 n c), .int .i64 i] [.ro 39 cs] (.mk ((a2 b d)) [.ro 39 cs] []), CallSpec Try.prog 76 [(a2 x y), (a2 b d), (a2 p q)] [] (.mk (.bool (X.onV x y b d p q)) [] []), X.onV x y b d p q = false, (decide (y ≤ q) == decide (d ≤ q)) = false, decide (y > d) = true, CallSpec Try.prog 77 [(a2 b d), (a2 x y), (a2 p q)] [] (.mk (.int .i64 (X.crossW b d x y p q)) [] []), decide (X.crossW b d x y p q > 0) = false, Value.int .i64 (IntKind.wrap .i64 (i + 1)) = .int .i64 (i + 1)]) := by kernel_rfl
theorem ri_round_ptffft : go (body (Try.prog) (8) (1) (8) (keepI) (ri_l) (frI n c v i) (hpI cs p q)) [(5, .dec true), (2, Itm.must), (1, Itm.must), (0, Itm.val ((a2 x y))), (10, .call (.mk ((a2 b d)) [.ro 39 cs] [])), (16, .call (.mk (.bool (X.onV x y b d p q)) [] [])), (3, .dec false), (20, .dec false), (10, .dec false), (6, .call (.mk (.int .i64 (X.crossW x y b d p q)) [] [])), (4, .dec true), (1, Itm.val (.int .i64 (0 - v))), (3, Itm.val (.int .i64 (i + 1)))] = some (Out.mk Xt.normal (frOf 54 [(0, (sB 0 n c)), (3, (pA 1)), (5, .int .i64 (0 - v)), (6, .int .i64 (i + 1))]) [.ro 39 cs, .own 39 [.int .i64 p, .int .i64 q]] [], true, [decide (i < (↑n : Int)) = true, inside i n = true, decide (0 + Int.toNat i * 2 + 2 ≤ List.length cs) = true, Value.agg (List.toArray (List.take 2 (List.drop (0 + Int.toNat i * 2) cs))) = (a2 x y), CallSpec Try.prog 72 [(sB 0 n c), .int .i64 i] [.ro 39 cs] (.mk ((a2 b d)) [.ro 39 cs] []), CallSpec Try.prog 76 [(a2 x y), (a2 b d), (a2 p q)] [] (.mk (.bool (X.onV x y b d p q)) [] []), X.onV x y b d p q = false, (decide (y ≤ q) == decide (d ≤ q)) = false, decide (y > d) = false, CallSpec Try.prog 77 [(a2 x y), (a2 b d), (a2 p q)] [] (.mk (.int .i64 (X.crossW x y b d p q)) [] []), decide (X.crossW x y b d p q > 0) = true, Value.int .i64 (IntKind.wrap .i64 (0 - v)) = .int .i64 (0 - v), Value.int .i64 (IntKind.wrap .i64 (i + 1)) = .int .i64 (i + 1)]) := by kernel_rfl
theorem ri_round_ptffff : go (body (Try.prog) (8) (1) (8) (keepI) (ri_l) (frI n c v i) (hpI cs p q)) [(5, .dec true), (2, Itm.must), (1, Itm.must), (0, Itm.val ((a2 x y))), (10, .call (.mk ((a2 b d)) [.ro 39 cs] [])), (16, .call (.mk (.bool (X.onV x y b d p q)) [] [])), (3, .dec false), (20, .dec false), (10, .dec false), (6, .call (.mk (.int .i64 (X.crossW x y b d p q)) [] [])), (4, .dec false), (1, Itm.val (.int .i64 (i + 1)))] = some (Out.mk Xt.normal (frOf 54 [(0, (sB 0 n c)), (3, (pA 1)), (5, .int .i64 v), (6, .int .i64 (i + 1))]) [.ro 39 cs, .own 39 [.int .i64 p, .int .i64 q]] [], true, [decide (i < (↑n : Int)) = true, inside i n = true, decide (0 + Int.toNat i * 2 + 2 ≤ List.length cs) = true, Value.agg (List.toArray (List.take 2 (List.drop (0 + Int.toNat i * 2) cs))) = (a2 x y), CallSpec Try.prog 72 [(sB 0 n c), .int .i64 i] [.ro 39 cs] (.mk ((a2 b d)) [.ro 39 cs] []), CallSpec Try.prog 76 [(a2 x y), (a2 b d), (a2 p q)] [] (.mk (.bool (X.onV x y b d p q)) [] []), X.onV x y b d p q = false, (decide (y ≤ q) == decide (d ≤ q)) = false, decide (y > d) = false, CallSpec Try.prog 77 [(a2 x y), (a2 b d), (a2 p q)] [] (.mk (.int .i64 (X.crossW x y b d p q)) [] []), decide (X.crossW x y b d p q > 0) = false, Value.int .i64 (IntKind.wrap .i64 (i + 1)) = .int .i64 (i + 1)]) := by kernel_rfl
theorem ri_round_pf : go (body (Try.prog) (8) (1) (8) (keepI) (ri_l) (frI n c v i) (hpI cs p q)) [(5, .dec false)] = some (Out.mk (Xt.exit 0) (frOf 54 [(0, (sB 0 n c)), (3, (pA 1)), (5, .int .i64 v), (6, .int .i64 i)]) [.ro 39 cs, .own 39 [.int .i64 p, .int .i64 q]] [], true, [decide (i < (↑n : Int)) = false]) := by kernel_rfl
theorem ri_round (R : Out) (k_ptt : (h0 : i < (↑n : Int)) → (h1 : X.onV x y b d p q = true) → Out.le (Out.mk Xt.ret (frOf 54 [(4, .int .i64 0)]) [.ro 39 cs] []) R) (k_ptft : (h0 : i < (↑n : Int)) → (h1 : ¬ (X.onV x y b d p q = true)) → (h2 : (decide (y ≤ q) == decide (d ≤ q)) = true) → Out.le (Out.mk Xt.normal (frOf 54 [(0, (sB 0 n c)), (3, (pA 1)), (5, .int .i64 v), (6, .int .i64 (i + 1))]) [.ro 39 cs, .own 39 [.int .i64 p, .int .i64 q]] []) R) (k_ptfftt : (h0 : i < (↑n : Int)) → (h1 : ¬ (X.onV x y b d p q = true)) → (h2 : ¬ ((decide (y ≤ q) == decide (d ≤ q)) = true)) → (h3 : y > d) → (h4 : X.crossW b d x y p q > 0) → Out.le (Out.mk Xt.normal (frOf 54 [(0, (sB 0 n c)), (3, (pA 1)), (5, .int .i64 (0 - v)), (6, .int .i64 (i + 1))]) [.ro 39 cs, .own 39 [.int .i64 p, .int .i64 q]] []) R) (k_ptfftf : (h0 : i < (↑n : Int)) → (h1 : ¬ (X.onV x y b d p q = true)) → (h2 : ¬ ((decide (y ≤ q) == decide (d ≤ q)) = true)) → (h3 : y > d) → (h4 : ¬ (X.crossW b d x y p q > 0)) → Out.le (Out.mk Xt.normal (frOf 54 [(0, (sB 0 n c)), (3, (pA 1)), (5, .int .i64 v), (6, .int .i64 (i + 1))]) [.ro 39 cs, .own 39 [.int .i64 p, .int .i64 q]] []) R) (k_ptffft : (h0 : i < (↑n : Int)) → (h1 : ¬ (X.onV x y b d p q = true)) → (h2 : ¬ ((decide (y ≤ q) == decide (d ≤ q)) = true)) → (h3 : ¬ (y > d)) → (h4 : X.crossW x y b d p q > 0) → Out.le (Out.mk Xt.normal (frOf 54 [(0, (sB 0 n c)), (3, (pA 1)), (5, .int .i64 (0 - v)), (6, .int .i64 (i + 1))]) [.ro 39 cs, .own 39 [.int .i64 p, .int .i64 q]] []) R) (k_ptffff : (h0 : i < (↑n : Int)) → (h1 : ¬ (X.onV x y b d p q = true)) → (h2 : ¬ ((decide (y ≤ q) == decide (d ≤ q)) = true)) → (h3 : ¬ (y > d)) → (h4 : ¬ (X.crossW x y b d p q > 0)) → Out.le (Out.mk Xt.normal (frOf 54 [(0, (sB 0 n c)), (3, (pA 1)), (5, .int .i64 v), (6, .int .i64 (i + 1))]) [.ro 39 cs, .own 39 [.int .i64 p, .int .i64 q]] []) R) (k_pf : (h0 : ¬ (i < (↑n : Int))) → Out.le (Out.mk (Xt.exit 0) (frOf 54 [(0, (sB 0 n c)), (3, (pA 1)), (5, .int .i64 v), (6, .int .i64 i)]) [.ro 39 cs, .own 39 [.int .i64 p, .int .i64 q]] []) R) : CodeSpec (Try.prog) (1) (ri_l) (frI n c v i) (hpI cs p q) R := by
  by_cases h0 : i < (↑n : Int)
  · by_cases h1 : X.onV x y b d p q = true
    · exact (CodeSpec.id (go_ok (body_ok tnamed tcalm tmixed _ _ _ _ _ _ ri_l_calm) (ri_round_ptt n c cs v i x y b d p q hv hi hn hl hA kB ) (aC (dT h0) (aC (inside_of (by omega)) (aC dO (aC ((hA (by omega))) (aC ((kB (by omega))) (aC ((on_done _ _ _ _ _ _)) (aC (h1) aN))))))))).le (k_ptt h0 h1)
    · by_cases h2 : (decide (y ≤ q) == decide (d ≤ q)) = true
      · exact (CodeSpec.id (go_ok (body_ok tnamed tcalm tmixed _ _ _ _ _ _ ri_l_calm) (ri_round_ptft n c cs v i x y b d p q hv hi hn hl hA kB ) (aC (dT h0) (aC (inside_of (by omega)) (aC dO (aC ((hA (by omega))) (aC ((kB (by omega))) (aC ((on_done _ _ _ _ _ _)) (aC ((bF h1)) (aC (h2) (aC (congrArg (Value.int _) (Go.IntWalk.i64_in _ (by omega))) aN))))))))))).le (k_ptft h0 h1 h2)
      · by_cases h3 : y > d
        · by_cases h4 : X.crossW b d x y p q > 0
          · exact (CodeSpec.id (go_ok (body_ok tnamed tcalm tmixed _ _ _ _ _ _ ri_l_calm) (ri_round_ptfftt n c cs v i x y b d p q hv hi hn hl hA kB ) (aC (dT h0) (aC (inside_of (by omega)) (aC dO (aC ((hA (by omega))) (aC ((kB (by omega))) (aC ((on_done _ _ _ _ _ _)) (aC ((bF h1)) (aC ((bF h2)) (aC (dT h3) (aC ((rcross_done _ _ _ _ _ _)) (aC (dT h4) (aC (congrArg (Value.int _) (Go.IntWalk.i64_in _ (by omega))) (aC (congrArg (Value.int _) (Go.IntWalk.i64_in _ (by omega))) aN))))))))))))))).le (k_ptfftt h0 h1 h2 h3 h4)
          · exact (CodeSpec.id (go_ok (body_ok tnamed tcalm tmixed _ _ _ _ _ _ ri_l_calm) (ri_round_ptfftf n c cs v i x y b d p q hv hi hn hl hA kB ) (aC (dT h0) (aC (inside_of (by omega)) (aC dO (aC ((hA (by omega))) (aC ((kB (by omega))) (aC ((on_done _ _ _ _ _ _)) (aC ((bF h1)) (aC ((bF h2)) (aC (dT h3) (aC ((rcross_done _ _ _ _ _ _)) (aC (dF h4) (aC (congrArg (Value.int _) (Go.IntWalk.i64_in _ (by omega))) aN)))))))))))))).le (k_ptfftf h0 h1 h2 h3 h4)
        · by_cases h4 : X.crossW x y b d p q > 0
          · exact (CodeSpec.id (go_ok (body_ok tnamed tcalm tmixed _ _ _ _ _ _ ri_l_calm) (ri_round_ptffft n c cs v i x y b d p q hv hi hn hl hA kB ) (aC (dT h0) (aC (inside_of (by omega)) (aC dO (aC ((hA (by omega))) (aC ((kB (by omega))) (aC ((on_done _ _ _ _ _ _)) (aC ((bF h1)) (aC ((bF h2)) (aC (dF h3) (aC ((rcross_done _ _ _ _ _ _)) (aC (dT h4) (aC (congrArg (Value.int _) (Go.IntWalk.i64_in _ (by omega))) (aC (congrArg (Value.int _) (Go.IntWalk.i64_in _ (by omega))) aN))))))))))))))).le (k_ptffft h0 h1 h2 h3 h4)
          · exact (CodeSpec.id (go_ok (body_ok tnamed tcalm tmixed _ _ _ _ _ _ ri_l_calm) (ri_round_ptffff n c cs v i x y b d p q hv hi hn hl hA kB ) (aC (dT h0) (aC (inside_of (by omega)) (aC dO (aC ((hA (by omega))) (aC ((kB (by omega))) (aC ((on_done _ _ _ _ _ _)) (aC ((bF h1)) (aC ((bF h2)) (aC (dF h3) (aC ((rcross_done _ _ _ _ _ _)) (aC (dF h4) (aC (congrArg (Value.int _) (Go.IntWalk.i64_in _ (by omega))) aN)))))))))))))).le (k_ptffff h0 h1 h2 h3 h4)
  · exact (CodeSpec.id (go_ok (body_ok tnamed tcalm tmixed _ _ _ _ _ _ ri_l_calm) (ri_round_pf n c cs v i x y b d p q hv hi hn hl hA kB ) (aC (dF h0) aN))).le (k_pf h0)
end
section
variable (n c : Nat) (cs : List Value) (p q : Int) (hL : CodeSpec Try.prog 1 ri_lC (frI n c (-1) 0) (hpI cs p q) (Out.mk Xt.ret frIR [.ro 39 cs] []))
include n c cs p q hL
theorem ri_T_p : go (exec (Try.prog) (8) (50) ([sl0 n c, pV p q]) ([.ro 39 cs])) [(10, Itm.loop [0, 3, 5, 6] (Out.mk Xt.ret (frOf 54 [(4, .int .i64 0)]) [.ro 39 cs] []))] = some (.mk (.int .i64 0) [.ro 39 cs] [], true, [type_of% hL]) := by kernel_rfl
theorem ri_T (R : Res) (k_p : Res.le (.mk (.int .i64 0) [.ro 39 cs] []) R) : CallSpec (Try.prog) (50) ([sl0 n c, pV p q]) ([.ro 39 cs]) R := by
  exact (CallSpec.id (go_ok (exec_ok tnamed tcalm tmixed _ _ _ _) (ri_T_p n c cs p q hL ) (aC (hL) aN))).le (k_p )
end
section
variable (n c : Nat) (cs : List Value) (p q v : Int) (hL : CodeSpec Try.prog 1 ri_lC (frI n c (-1) 0) (hpI cs p q) (Out.mk (Xt.exit 0) (frI n c v (↑n : Int)) (hpI cs p q) []))
include n c cs p q v hL
theorem ri_F_p : go (exec (Try.prog) (8) (50) ([sl0 n c, pV p q]) ([.ro 39 cs])) [(10, Itm.loop [0, 3, 5, 6] (Out.mk (Xt.exit 0) (frOf 54 [(0, (sB 0 n c)), (3, (pA 1)), (5, .int .i64 v), (6, .int .i64 (↑n : Int))]) [.ro 39 cs, .own 39 [.int .i64 p, .int .i64 q]] []))] = some (.mk (.int .i64 v) [.ro 39 cs] [], true, [type_of% hL]) := by kernel_rfl
theorem ri_F (R : Res) (k_p : Res.le (.mk (.int .i64 v) [.ro 39 cs] []) R) : CallSpec (Try.prog) (50) ([sl0 n c, pV p q]) ([.ro 39 cs]) R := by
  exact (CallSpec.id (go_ok (exec_ok tnamed tcalm tmixed _ _ _ _) (ri_F_p n c cs p q v hL ) (aC (hL) aN))).le (k_p )
end
end Go.Proofs.Ytjalkjeldlchoaa.Ex
end
section
set_option linter.unusedSectionVars false
set_option linter.unusedSimpArgs false
set_option linter.unusedVariables false
namespace Go.Proofs.Ytjalkjeldlchoaa.X
open Go Go.RowKit
set_option linter.unusedVariables false
set_option linter.unusedSimpArgs false
def BIG : Int := 1180591620717411303424
theorem mul_small {x y m : Int} (hm : 0 ≤ m) (hx : -m ≤ x ∧ x ≤ m) (hy : -m ≤ y ∧ y ≤ m) : -(m * m) ≤ x * y ∧ x * y ≤ m * m := by
  have h1 := Int.mul_nonneg (a := m - x) (b := m + y) (by omega) (by omega)
  have h2 := Int.mul_nonneg (a := m + x) (b := m - y) (by omega) (by omega)
  have h3 := Int.mul_nonneg (a := m - x) (b := m - y) (by omega) (by omega)
  have h4 := Int.mul_nonneg (a := m + x) (b := m + y) (by omega) (by omega)
  rw [Int.sub_mul, Int.mul_add, Int.mul_add] at h1
  rw [Int.add_mul, Int.mul_sub, Int.mul_sub] at h2
  rw [Int.sub_mul, Int.mul_sub, Int.mul_sub] at h3
  rw [Int.add_mul, Int.mul_add, Int.mul_add] at h4
  omega
theorem cross_near (K a0 a1 b0 b1 v0 v1 e0 e1 : Int) : crossI (K * a0) (K * a1) (K * b0) (K * b1) (K * v0 + e0) (K * v1 + e1) = K * (K * crossI a0 a1 b0 b1 v0 v1 + ((b0 - a0) * e1 - (b1 - a1) * e0)) := by
  unfold crossI
  simp only [Int.mul_sub, Int.sub_mul, Int.mul_add, Int.add_mul, Int.mul_assoc, Int.mul_comm, Int.mul_left_comm]
  omega
def InC (x : Int) : Prop := -1073741824 ≤ x ∧ x ≤ 1073741824
theorem far_near {a0 a1 b0 b1 v0 v1 d0 d1 e0 e1 : Int} (ha : InC a0 ∧ InC a1) (hb : InC b0 ∧ InC b1) (hv : InC v0 ∧ InC v1) (hd : (-2147483648 ≤ d0 ∧ d0 ≤ 2147483648) ∧ (-2147483648 ≤ d1 ∧ d1 ≤ 2147483648)) (he : (-2147483648 ≤ e0 ∧ e0 ≤ 2147483648) ∧ (-2147483648 ≤ e1 ∧ e1 ≤ 2147483648))
    (hn : ¬ OnI a0 a1 b0 b1 v0 v1) : ¬ GeoI (BIG * a0) (BIG * a1) (BIG * b0) (BIG * b1) (BIG * v0 + d0) (BIG * v1 + d1) (BIG * v0 + e0) (BIG * v1 + e1) := by
  rintro ⟨ox, oy, s, _⟩
  unfold InC at ha hb hv
  by_cases c : crossI a0 a1 b0 b1 v0 v1 = 0
  · have hb' : ¬ (Btw a0 b0 v0 ∧ Btw a1 b1 v1) := fun h => hn ⟨c, h.1, h.2⟩
    clear s hn c
    unfold Btw at hb'
    unfold Ov BIG at ox oy
    omega
  · rw [cross_near, cross_near] at s
    have k1 := mul_small (x := b0 - a0) (y := d1) (m := 2147483648) (by omega) (by omega) (by omega)
    have k2 := mul_small (x := b1 - a1) (y := d0) (m := 2147483648) (by omega) (by omega) (by omega)
    have k3 := mul_small (x := b0 - a0) (y := e1) (m := 2147483648) (by omega) (by omega) (by omega)
    have k4 := mul_small (x := b1 - a1) (y := e0) (m := 2147483648) (by omega) (by omega) (by omega)
    clear ox oy hn ha hb hv hd he
    generalize (b0 - a0) * d1 = t1 at *
    generalize (b1 - a1) * d0 = t2 at *
    generalize (b0 - a0) * e1 = t3 at *
    generalize (b1 - a1) * e0 = t4 at *
    generalize crossI a0 a1 b0 b1 v0 v1 = x at *
    apply s
    unfold Same BIG
    omega
def upw (a0 a1 b0 b1 : Int) : Int := if a1 < b1 ∨ (a1 = b1 ∧ b0 < a0) then 1 else 0
theorem cross_arm (K x y z t : Int) : crossI x y z t (K * x) (K * y) = -((K - 1) * (x * t - y * z)) ∧ crossI x y z t (K * z) (K * t) = -((K - 1) * (x * t - y * z)) ∧
    crossI (K * x) (K * y) 0 0 z t = -(K * (x * t - y * z)) ∧ crossI 0 0 (K * z) (K * t) x y = -(K * (x * t - y * z)) := by
  unfold crossI
  simp only [Int.mul_sub, Int.sub_mul, Int.mul_assoc, Int.mul_comm, Int.mul_left_comm, Int.zero_sub, Int.sub_zero, Int.zero_mul, Int.mul_zero, Int.mul_neg, Int.neg_mul, Int.mul_one, Int.one_mul]
  refine ⟨?_, ?_, ?_, ?_⟩ <;> omega
theorem no_spike_sign {x y z t : Int} (hs : x * t - y * z = 0 → x * z + y * t < 0) : x * t - y * z = 0 → ¬ (0 < y ∧ 0 < t) ∧ ¬ (y < 0 ∧ t < 0) := by
  intro h
  have hd := hs h
  have e : (x * z) * (y * t) = (x * t) * (x * t) := by
    calc (x * z) * (y * t) = (x * t) * (y * z) := by simp only [Int.mul_assoc, Int.mul_comm, Int.mul_left_comm]
      _ = (x * t) * (x * t) := by rw [show y * z = x * t by omega]
  have sq : 0 ≤ (x * t) * (x * t) := by
    by_cases g : 0 ≤ x * t
    · exact Int.mul_nonneg g g
    · rw [← Int.neg_mul_neg]; exact Int.mul_nonneg (by omega) (by omega)
  have key : ¬ (0 < y * t) := by
    intro g
    have := Int.mul_neg_of_neg_of_pos (show x * z < 0 by omega) g
    omega
  refine ⟨fun g => key (Int.mul_pos g.1 g.2), fun g => key ?_⟩
  rw [← Int.neg_mul_neg]
  exact Int.mul_pos (by omega) (by omega)
theorem sign_mul {u v : Int} (hv : 0 < v) : (0 < u * v ↔ 0 < u) ∧ (u * v < 0 ↔ u < 0) := by
  obtain ⟨k1, k2, k3, k4⟩ := mul_sg (u := u) hv
  exact ⟨⟨fun h => by by_cases c : 0 < u; exact c; have := k4 (by omega); omega, k1⟩, ⟨fun h => by by_cases c : u < 0; exact c; have := k3 (by omega); omega, k2⟩⟩
theorem corner_up {x y z t : Int} (hy : -2147483648 ≤ y ∧ y ≤ 2147483648) (ht : -2147483648 ≤ t ∧ t ≤ 2147483648) (hyt : y ≤ t) (h1 : ¬ (x = 0 ∧ y = 0)) (h2 : ¬ (z = 0 ∧ t = 0)) (hs : x * t - y * z = 0 → x * z + y * t < 0) :
    pot x y z t (BIG * x) (BIG * y) - pot x y z t (BIG * z) (BIG * t) - wst z t (BIG * x) (BIG * y) 0 0 + wst x y 0 0 (BIG * z) (BIG * t) = upw 0 0 z t - upw x y 0 0 := by
  obtain ⟨c1, c2, c3, c4⟩ := cross_arm BIG x y z t
  unfold pot wst upw
  rw [c1, c2, c3, c4]
  have hns := no_spike_sign hs
  have hz : y = 0 → t = 0 → (x < 0 ∧ 0 < z) ∨ (0 < x ∧ z < 0) := by
    intro e1 e2
    have := hs (by rw [e1, e2]; simp)
    rw [e1, Int.zero_mul, Int.add_zero] at this
    by_cases cx : 0 < x
    · by_cases cz : 0 < z
      · have := Int.mul_pos cx cz; omega
      · exact .inr ⟨cx, by omega⟩
    · by_cases cz : z < 0
      · have := Int.mul_nonneg (show 0 ≤ -x by omega) (show 0 ≤ -z by omega); rw [Int.neg_mul_neg] at this; omega
      · exact .inl ⟨by omega, by omega⟩
  have hl : y = 0 → 0 < t → (0 < x * t - y * z ↔ 0 < x) ∧ (x * t - y * z < 0 ↔ x < 0) := by
    intro e g
    rw [e, Int.zero_mul, Int.sub_zero]
    exact sign_mul g
  have hr : t = 0 → y < 0 → (0 < x * t - y * z ↔ 0 < z) ∧ (x * t - y * z < 0 ↔ z < 0) := by
    intro e g
    have := sign_mul (u := z) (show 0 < -y by omega)
    rw [Int.mul_neg, Int.mul_comm] at this
    rw [e, Int.mul_zero, Int.zero_sub]
    exact this
  have h00 : y = 0 → t = 0 → x * t - y * z = 0 := by intro e1 e2; rw [e1, e2]; simp
  clear c1 c2 c3 c4 hs
  generalize x * t - y * z = D at *
  have b1 : (-((BIG - 1) * D) < 0) ↔ 0 < D := by unfold BIG; omega
  have b2 : (-(BIG * D) > 0) ↔ D < 0 := by unfold BIG; omega
  have b3 : (-(BIG * D) < 0) ↔ 0 < D := by unfold BIG; omega
  have ey : (y < BIG * y ↔ 0 < y) ∧ (BIG * y ≤ t ↔ (y < 0 ∨ (y = 0 ∧ 0 ≤ t))) ∧ (BIG * y > t ↔ (0 < y ∨ (y = 0 ∧ t < 0))) := by unfold BIG; omega
  have et : (y < BIG * t ↔ (0 < t ∨ (t = 0 ∧ y < 0))) ∧ (BIG * t ≤ t ↔ t ≤ 0) ∧ (BIG * t > y ↔ (0 < t ∨ (t = 0 ∧ y < 0))) ∧ (BIG * t ≤ y ↔ (t < 0 ∨ (t = 0 ∧ 0 ≤ y))) := by unfold BIG; omega
  simp only [b1, b2, b3, ey.1, ey.2.1, ey.2.2, et.1, et.2.1, et.2.2.1, et.2.2.2]
  clear b1 b2 b3 ey et hy ht
  have yc : y < 0 ∨ y = 0 ∨ 0 < y := by omega
  have tc : t < 0 ∨ t = 0 ∨ 0 < t := by omega
  rcases yc with gy | gy | gy <;> rcases tc with gt | gt | gt
  · have dn : D ≠ 0 := fun e => (hns e).2 ⟨gy, gt⟩
    clear hz hl hr h00 hns h1 h2
    simp only [gt_iff_lt, eq_true (show y < 0 by omega), eq_true (show y ≤ 0 by omega), eq_false (show ¬ (0 < y) by omega), eq_false (show ¬ (y = 0) by omega), eq_false (show ¬ (0 ≤ y) by omega), eq_false (show ¬ (0 = y) by omega), eq_true (show t < 0 by omega), eq_true (show t ≤ 0 by omega), eq_false (show ¬ (0 < t) by omega), eq_false (show ¬ (t = 0) by omega), eq_false (show ¬ (0 ≤ t) by omega), eq_false (show ¬ (0 = t) by omega), true_or, or_true, false_or, or_false, and_true, true_and, false_and, and_false, if_true, if_false, not_true_eq_false, not_false_eq_true]
    repeat' split
    all_goals omega
  · have k := hr gt gy
    clear hz hl hr h00 hns
    simp only [gt_iff_lt, eq_true (show y < 0 by omega), eq_true (show y ≤ 0 by omega), eq_false (show ¬ (0 < y) by omega), eq_false (show ¬ (y = 0) by omega), eq_false (show ¬ (0 ≤ y) by omega), eq_false (show ¬ (0 = y) by omega), eq_true (show t = 0 by omega), eq_true (show t ≤ 0 by omega), eq_true (show 0 ≤ t by omega), eq_true (show 0 = t by omega), eq_false (show ¬ (t < 0) by omega), eq_false (show ¬ (0 < t) by omega), true_or, or_true, false_or, or_false, and_true, true_and, false_and, and_false, if_true, if_false, not_true_eq_false, not_false_eq_true]
    repeat' split
    all_goals omega
  · clear hz hl hr h00 hns h1 h2
    simp only [gt_iff_lt, eq_true (show y < 0 by omega), eq_true (show y ≤ 0 by omega), eq_false (show ¬ (0 < y) by omega), eq_false (show ¬ (y = 0) by omega), eq_false (show ¬ (0 ≤ y) by omega), eq_false (show ¬ (0 = y) by omega), eq_true (show 0 < t by omega), eq_true (show 0 ≤ t by omega), eq_false (show ¬ (t < 0) by omega), eq_false (show ¬ (t = 0) by omega), eq_false (show ¬ (t ≤ 0) by omega), eq_false (show ¬ (0 = t) by omega), true_or, or_true, false_or, or_false, and_true, true_and, false_and, and_false, if_true, if_false, not_true_eq_false, not_false_eq_true]
    repeat' split
    all_goals omega
  · omega
  · have k := hz gy gt
    have d := h00 gy gt
    clear hz hl hr h00 hns h1 h2
    simp only [gt_iff_lt, eq_true (show y = 0 by omega), eq_true (show y ≤ 0 by omega), eq_true (show 0 ≤ y by omega), eq_true (show 0 = y by omega), eq_false (show ¬ (y < 0) by omega), eq_false (show ¬ (0 < y) by omega), eq_true (show t = 0 by omega), eq_true (show t ≤ 0 by omega), eq_true (show 0 ≤ t by omega), eq_true (show 0 = t by omega), eq_false (show ¬ (t < 0) by omega), eq_false (show ¬ (0 < t) by omega), true_or, or_true, false_or, or_false, and_true, true_and, false_and, and_false, if_true, if_false, not_true_eq_false, not_false_eq_true]
    repeat' split
    all_goals omega
  · have k := hl gy gt
    clear hz hl hr h00 hns
    simp only [gt_iff_lt, eq_true (show y = 0 by omega), eq_true (show y ≤ 0 by omega), eq_true (show 0 ≤ y by omega), eq_true (show 0 = y by omega), eq_false (show ¬ (y < 0) by omega), eq_false (show ¬ (0 < y) by omega), eq_true (show 0 < t by omega), eq_true (show 0 ≤ t by omega), eq_false (show ¬ (t < 0) by omega), eq_false (show ¬ (t = 0) by omega), eq_false (show ¬ (t ≤ 0) by omega), eq_false (show ¬ (0 = t) by omega), true_or, or_true, false_or, or_false, and_true, true_and, false_and, and_false, if_true, if_false, not_true_eq_false, not_false_eq_true]
    repeat' split
    all_goals omega
  · omega
  · omega
  · have dn : D ≠ 0 := fun e => (hns e).1 ⟨gy, gt⟩
    clear hz hl hr h00 hns h1 h2
    simp only [gt_iff_lt, eq_true (show 0 < y by omega), eq_true (show 0 ≤ y by omega), eq_false (show ¬ (y < 0) by omega), eq_false (show ¬ (y = 0) by omega), eq_false (show ¬ (y ≤ 0) by omega), eq_false (show ¬ (0 = y) by omega), eq_true (show 0 < t by omega), eq_true (show 0 ≤ t by omega), eq_false (show ¬ (t < 0) by omega), eq_false (show ¬ (t = 0) by omega), eq_false (show ¬ (t ≤ 0) by omega), eq_false (show ¬ (0 = t) by omega), true_or, or_true, false_or, or_false, and_true, true_and, false_and, and_false, if_true, if_false, not_true_eq_false, not_false_eq_true]
    repeat' split
    all_goals omega
theorem corner_same {x y z t : Int} (hy : -2147483648 ≤ y ∧ y ≤ 2147483648) (ht : -2147483648 ≤ t ∧ t ≤ 2147483648) (hty : t ≤ y) (h1 : ¬ (x = 0 ∧ y = 0)) (h2 : ¬ (z = 0 ∧ t = 0)) (hs : x * t - y * z = 0 → x * z + y * t < 0) :
    pot z t x y (BIG * x) (BIG * y) - pot z t x y (BIG * z) (BIG * t) - wst x y 0 0 (BIG * z) (BIG * t) + wst z t (BIG * x) (BIG * y) 0 0 = -(upw 0 0 z t - upw x y 0 0) := by
  have h := corner_up (x := z) (y := t) (z := x) (t := y) ht hy hty h2 h1 (fun e => by
    have := hs (by rw [Int.mul_comm x t, Int.mul_comm y z]; omega)
    rw [Int.mul_comm z x, Int.mul_comm t y]
    exact this)
  rw [wst_back x y 0 0, wst_back z t (BIG * x)] at h
  have u : ∀ g k : Int, ¬ (g = 0 ∧ k = 0) → upw g k 0 0 = 1 - upw 0 0 g k := by
    intro g k hgk
    unfold upw
    repeat' split
    all_goals omega
  have u1 := u x y h1
  have u2 := u z t h2
  omega
end Go.Proofs.Ytjalkjeldlchoaa.X
end
section
set_option linter.unusedSectionVars false
set_option linter.unusedSimpArgs false
set_option linter.unusedVariables false
namespace Go.Proofs.Ytjalkjeldlchoaa.X
open Go Go.RowKit
set_option linter.unusedVariables false
set_option linter.unusedSimpArgs false
def sm (h : Nat → Int) : Nat → Int
  | 0 => 0
  | k + 1 => sm h k + h k
theorem sm_congr {h g : Nat → Int} : ∀ n, (∀ k, k < n → h k = g k) → sm h n = sm g n
  | 0, _ => rfl
  | n + 1, he => by rw [sm, sm, sm_congr n fun k hk => he k (by omega), he n (by omega)]
theorem sm_sub (h g : Nat → Int) : ∀ n, sm (fun k => h k - g k) n = sm h n - sm g n
  | 0 => rfl
  | n + 1 => by rw [sm, sm, sm, sm_sub h g n]; omega
theorem sm_tele (f : Nat → Int) : ∀ n, sm (fun k => f (k + 1) - f k) n = f n - f 0
  | 0 => by rw [sm]; omega
  | n + 1 => by rw [sm, sm_tele f n]; omega
theorem sm_two (h : Nat → Int) : ∀ n, 2 ≤ n → (∀ k, 2 ≤ k → k < n → h k = 0) → sm h n = h 0 + h 1
  | 0, h2, _ => by omega
  | 1, h2, _ => by omega
  | 2, _, _ => by rw [sm, sm, sm]; omega
  | n + 3, _, hz => by
    rw [sm, sm_two h (n + 2) (by omega) fun k h1 h2 => hz k h1 (by omega), hz (n + 2) (by omega) (by omega)]
    omega
theorem sm_first (h : Nat → Int) : ∀ n, sm h (n + 1) = h 0 + sm (fun k => h (k + 1)) n
  | 0 => by rw [sm, sm, sm]; omega
  | n + 1 => by rw [sm, sm_first h n, sm]; omega
theorem sm_shift1 {h : Nat → Int} {n : Nat} (hp : h n = h 0) : sm (fun k => h (k + 1)) n = sm h n := by
  have := sm_first h n
  rw [sm] at this
  omega
theorem sm_shift {h : Nat → Int} {n : Nat} (hp : ∀ k, h (k + n) = h k) : ∀ s, sm (fun k => h (k + s)) n = sm h n
  | 0 => rfl
  | s + 1 => by
    rw [← sm_shift hp s]
    have := sm_shift1 (h := fun k => h (k + s)) (n := n) (by show h (n + s) = h (0 + s); rw [Nat.add_comm n s, hp, Nat.zero_add])
    rw [← this]
    exact sm_congr n fun k _ => by show h (k + (s + 1)) = h (k + 1 + s); congr 1; omega
theorem crossI_tr (u0 u1 a0 a1 b0 b1 p0 p1 : Int) : crossI (u0 + a0) (u1 + a1) (u0 + b0) (u1 + b1) (u0 + p0) (u1 + p1) = crossI a0 a1 b0 b1 p0 p1 := by
  unfold crossI
  rw [show u0 + b0 - (u0 + a0) = b0 - a0 by omega, show u1 + p1 - (u1 + a1) = p1 - a1 by omega, show u1 + b1 - (u1 + a1) = b1 - a1 by omega, show u0 + p0 - (u0 + a0) = p0 - a0 by omega]
theorem wst_tr (u0 u1 p0 p1 a0 a1 b0 b1 : Int) : wst (u0 + p0) (u1 + p1) (u0 + a0) (u1 + a1) (u0 + b0) (u1 + b1) = wst p0 p1 a0 a1 b0 b1 := by
  unfold wst
  rw [crossI_tr]
  generalize crossI a0 a1 b0 b1 p0 p1 = A
  repeat' split
  all_goals omega
theorem pot_tr (u0 u1 p0 p1 q0 q1 v0 v1 : Int) : pot (u0 + p0) (u1 + p1) (u0 + q0) (u1 + q1) (u0 + v0) (u1 + v1) = pot p0 p1 q0 q1 v0 v1 := by
  unfold pot
  rw [crossI_tr]
  generalize crossI p0 p1 q0 q1 v0 v1 = A
  repeat' split
  all_goals omega
/-- A closed polygon whose sides meet at its corners alone. -/
structure Simp (n : Nat) (X Y : Nat → Int) : Prop where
  three : 3 ≤ n
  perX : ∀ i, X (i + n) = X i
  perY : ∀ i, Y (i + n) = Y i
  far : ∀ i d, 2 ≤ d → d + 2 ≤ n → ¬ GeoI (X i) (Y i) (X (i + 1)) (Y (i + 1)) (X (i + d)) (Y (i + d)) (X (i + d + 1)) (Y (i + d + 1))
  ne : ∀ i, ¬ (X i = X (i + 1) ∧ Y i = Y (i + 1))
  sp1 : ∀ i, ¬ OnI (X i) (Y i) (X (i + 1)) (Y (i + 1)) (X (i + 2)) (Y (i + 2))
  sp2 : ∀ i, ¬ OnI (X (i + 1)) (Y (i + 1)) (X (i + 2)) (Y (i + 2)) (X i) (Y i)
  inb : ∀ i, InC (X i) ∧ InC (Y i)
def WN (n : Nat) (X Y : Nat → Int) (M p q : Int) : Int := sm (fun k => wst p q (M * X k) (M * Y k) (M * X (k + 1)) (M * Y (k + 1))) n
theorem Simp.shift {n : Nat} {X Y : Nat → Int} (h : Simp n X Y) (s : Nat) : Simp n (fun k => X (k + s)) (fun k => Y (k + s)) := by
  have e : ∀ i d : Nat, i + d + s = i + s + d := fun i d => by omega
  refine ⟨h.three, fun i => ?_, fun i => ?_, fun i d h1 h2 => ?_, fun i => ?_, fun i => ?_, fun i => ?_, fun i => h.inb _⟩
  · show X (i + n + s) = X (i + s); rw [e, h.perX]
  · show Y (i + n + s) = Y (i + s); rw [e, h.perY]
  · have := h.far (i + s) d h1 h2
    show ¬ GeoI (X (i + s)) (Y (i + s)) (X (i + 1 + s)) (Y (i + 1 + s)) (X (i + d + s)) (Y (i + d + s)) (X (i + d + 1 + s)) (Y (i + d + 1 + s))
    rw [e i 1, e i d, show i + d + 1 + s = i + s + d + 1 by omega]
    exact this
  · show ¬ (X (i + s) = X (i + 1 + s) ∧ Y (i + s) = Y (i + 1 + s)); rw [e]; exact h.ne _
  · show ¬ OnI (X (i + s)) (Y (i + s)) (X (i + 1 + s)) (Y (i + 1 + s)) (X (i + 2 + s)) (Y (i + 2 + s)); rw [e, e]; exact h.sp1 _
  · show ¬ OnI (X (i + 1 + s)) (Y (i + 1 + s)) (X (i + 2 + s)) (Y (i + 2 + s)) (X (i + s)) (Y (i + s)); rw [e, e]; exact h.sp2 _
theorem WN_shift {n : Nat} {X Y : Nat → Int} (h : Simp n X Y) (M p q : Int) (s : Nat) : WN n (fun k => X (k + s)) (fun k => Y (k + s)) M p q = WN n X Y M p q := by
  have := sm_shift (h := fun k => wst p q (M * X k) (M * Y k) (M * X (k + 1)) (M * Y (k + 1))) (n := n) (fun k => by
    show wst p q (M * X (k + n)) (M * Y (k + n)) (M * X (k + n + 1)) (M * Y (k + n + 1)) = _
    rw [show k + n + 1 = k + 1 + n by omega, h.perX, h.perY, h.perX, h.perY]) s
  unfold WN
  rw [← this]
  exact sm_congr n fun k _ => by
    show wst p q (M * X (k + s)) (M * Y (k + s)) (M * X (k + 1 + s)) (M * Y (k + 1 + s)) = wst p q (M * X (k + s)) (M * Y (k + s)) (M * X (k + s + 1)) (M * Y (k + s + 1))
    rw [show k + 1 + s = k + s + 1 by omega]
theorem Simp.clear1 {n : Nat} {X Y : Nat → Int} (h : Simp n X Y) {k : Nat} (h2 : 2 ≤ k) (hk : k < n) : ¬ OnI (X k) (Y k) (X (k + 1)) (Y (k + 1)) (X 1) (Y 1) := by
  intro ho
  by_cases c : k + 2 ≤ n
  · have ho' : OnI (X (0 + k)) (Y (0 + k)) (X (0 + k + 1)) (Y (0 + k + 1)) (X 1) (Y 1) := by simpa only [Nat.zero_add] using ho
    exact h.far 0 k h2 c (ref_geo (.inr (.inr (.inr (.inl ho')))))
  · obtain rfl : k = n - 1 := by omega
    by_cases c3 : n = 3
    · subst c3
      have e3 : X 3 = X 0 := by have := h.perX 0; rwa [Nat.zero_add] at this
      have := h.sp2 1
      exact this ho
    · have := h.far 1 (n - 2) (by omega) (by omega)
      rw [show 1 + (n - 2) = n - 1 by omega] at this
      exact this (ref_geo (.inr (.inr (.inl ho))))
theorem no_spike {x y z t : Int} (h1 : ¬ (x = 0 ∧ y = 0)) (h2 : ¬ (z = 0 ∧ t = 0)) (hd : ¬ (x * t - y * z = 0 ∧ x * z + y * t > 0)) : x * t - y * z = 0 → x * z + y * t < 0 := by
  intro hc
  by_cases h0 : x * z + y * t = 0
  · exfalso
    have p1 : 0 < x * x + y * y := by
      have a := sq_nn x
      have b := sq_nn y
      by_cases c : x * x = 0
      · by_cases d : y * y = 0
        · exact absurd ⟨(Int.mul_eq_zero.1 c).elim id id, (Int.mul_eq_zero.1 d).elim id id⟩ h1
        · omega
      · omega
    have ez : z * (x * x + y * y) = 0 := by
      calc z * (x * x + y * y) = x * (x * z + y * t) - y * (x * t - y * z) := by
            simp only [Int.mul_add, Int.mul_sub, Int.mul_assoc, Int.mul_comm, Int.mul_left_comm]; omega
        _ = 0 := by rw [h0, hc]; simp
    have et : t * (x * x + y * y) = 0 := by
      calc t * (x * x + y * y) = y * (x * z + y * t) + x * (x * t - y * z) := by
            simp only [Int.mul_add, Int.mul_sub, Int.mul_assoc, Int.mul_comm, Int.mul_left_comm]; omega
        _ = 0 := by rw [h0, hc]; simp
    rcases Int.mul_eq_zero.1 ez with e | e
    · rcases Int.mul_eq_zero.1 et with e' | e'
      · exact h2 ⟨e, e'⟩
      · omega
    · omega
  · omega
theorem arm_zero (K x y : Int) : wst x y (K * x) (K * y) 0 0 = 0 ∧ wst x y 0 0 (K * x) (K * y) = 0 := by
  have e1 : crossI (K * x) (K * y) 0 0 x y = 0 := by
    unfold crossI
    simp only [Int.mul_sub, Int.sub_mul, Int.mul_assoc, Int.mul_comm, Int.mul_left_comm, Int.zero_sub, Int.sub_zero, Int.neg_mul, Int.mul_neg]
    omega
  have e2 : crossI 0 0 (K * x) (K * y) x y = 0 := by
    unfold crossI
    simp only [Int.mul_sub, Int.sub_mul, Int.mul_assoc, Int.mul_comm, Int.mul_left_comm, Int.zero_sub, Int.sub_zero, Int.neg_mul, Int.mul_neg]
    omega
  unfold wst
  rw [e1, e2]
  refine ⟨?_, ?_⟩
  · rw [if_neg (fun g => by omega), if_neg (fun g => by omega)]
  · rw [if_neg (fun g => by omega), if_neg (fun g => by omega)]
theorem upw_tr (a0 a1 b0 b1 : Int) : upw a0 a1 b0 b1 = upw (a0 - b0) (a1 - b1) 0 0 ∧ upw a0 a1 b0 b1 = upw 0 0 (b0 - a0) (b1 - a1) := by
  unfold upw
  refine ⟨?_, ?_⟩ <;> (repeat' split) <;> omega
theorem two_sides {n : Nat} {X Y : Nat → Int} (h : Simp n X Y) {p0 p1 q0 q1 : Int} (hpq : p1 ≤ q1) (hn : ∀ k, 2 ≤ k → k < n → ¬ GeoI (BIG * X k) (BIG * Y k) (BIG * X (k + 1)) (BIG * Y (k + 1)) p0 p1 q0 q1) :
    WN n X Y BIG p0 p1 - WN n X Y BIG q0 q1 = (wst p0 p1 (BIG * X 0) (BIG * Y 0) (BIG * X 1) (BIG * Y 1) - wst q0 q1 (BIG * X 0) (BIG * Y 0) (BIG * X 1) (BIG * Y 1)) + (wst p0 p1 (BIG * X 1) (BIG * Y 1) (BIG * X 2) (BIG * Y 2) - wst q0 q1 (BIG * X 1) (BIG * Y 1) (BIG * X 2) (BIG * Y 2)) +
      pot p0 p1 q0 q1 (BIG * X 0) (BIG * Y 0) - pot p0 p1 q0 q1 (BIG * X 2) (BIG * Y 2) := by
  have h3 := h.three
  have h2 := sm_two (fun k => (wst p0 p1 (BIG * X k) (BIG * Y k) (BIG * X (k + 1)) (BIG * Y (k + 1)) - wst q0 q1 (BIG * X k) (BIG * Y k) (BIG * X (k + 1)) (BIG * Y (k + 1))) - ((fun i => pot p0 p1 q0 q1 (BIG * X i) (BIG * Y i)) (k + 1) - (fun i => pot p0 p1 q0 q1 (BIG * X i) (BIG * Y i)) k)) n (by omega) (fun k h2 hk => by
    have := edge_same hpq (hn k h2 hk)
    show (wst p0 p1 (BIG * X k) (BIG * Y k) (BIG * X (k + 1)) (BIG * Y (k + 1)) - wst q0 q1 (BIG * X k) (BIG * Y k) (BIG * X (k + 1)) (BIG * Y (k + 1))) - (pot p0 p1 q0 q1 (BIG * X (k + 1)) (BIG * Y (k + 1)) - pot p0 p1 q0 q1 (BIG * X k) (BIG * Y k)) = 0
    omega)
  rw [sm_sub, sm_sub, sm_tele (fun i => pot p0 p1 q0 q1 (BIG * X i) (BIG * Y i))] at h2
  have ep : X n = X 0 ∧ Y n = Y 0 := by
    have a := h.perX 0
    have b := h.perY 0
    rw [Nat.zero_add] at a b
    exact ⟨a, b⟩
  simp only [ep.1, ep.2, Nat.zero_add, Nat.reduceAdd] at h2
  unfold WN
  omega
theorem past_corner {n : Nat} {X Y : Nat → Int} (h : Simp n X Y) :
    WN n X Y BIG (BIG * X 1 + (X 0 - X 1)) (BIG * Y 1 + (Y 0 - Y 1)) + upw (X 0) (Y 0) (X 1) (Y 1) = WN n X Y BIG (BIG * X 1 + (X 2 - X 1)) (BIG * Y 1 + (Y 2 - Y 1)) + upw (X 1) (Y 1) (X 2) (Y 2) := by
  rw [(upw_tr (X 0) (Y 0) (X 1) (Y 1)).1, (upw_tr (X 1) (Y 1) (X 2) (Y 2)).2]
  have n1 := h.ne 0
  have n2 := h.ne 1
  have b0 := h.inb 0
  have b1 := h.inb 1
  have b2 := h.inb 2
  have s1 := h.sp1 0
  have s2 := h.sp2 0
  simp only [Nat.zero_add, Nat.reduceAdd] at n1 n2 s1 s2
  have hsp : ¬ ((X 0 - X 1) * (Y 2 - Y 1) - (Y 0 - Y 1) * (X 2 - X 1) = 0 ∧ (X 0 - X 1) * (X 2 - X 1) + (Y 0 - Y 1) * (Y 2 - Y 1) > 0) := by
    rintro ⟨g1, g2⟩
    have hc : crossI (X 0) (Y 0) (X 1) (Y 1) (X 2) (Y 2) = 0 := by
      have : crossI (X 0) (Y 0) (X 1) (Y 1) (X 2) (Y 2) = -((X 0 - X 1) * (Y 2 - Y 1) - (Y 0 - Y 1) * (X 2 - X 1)) := by
        unfold crossI
        simp only [Int.mul_sub, Int.sub_mul, Int.mul_comm]
        omega
      rw [this, g1]
      rfl
    rcases (spike_iff n1 n2).1 ⟨hc, g2⟩ with g | g
    · exact s1 g
    · exact s2 g
  have hs := no_spike (x := X 0 - X 1) (y := Y 0 - Y 1) (z := X 2 - X 1) (t := Y 2 - Y 1) (by omega) (by omega) hsp
  have e0 : BIG * X 0 = BIG * X 1 + BIG * (X 0 - X 1) ∧ BIG * Y 0 = BIG * Y 1 + BIG * (Y 0 - Y 1) := by rw [Int.mul_sub, Int.mul_sub]; omega
  have e1 : BIG * X 1 = BIG * X 1 + 0 ∧ BIG * Y 1 = BIG * Y 1 + 0 := by omega
  have e2 : BIG * X 2 = BIG * X 1 + BIG * (X 2 - X 1) ∧ BIG * Y 2 = BIG * Y 1 + BIG * (Y 2 - Y 1) := by rw [Int.mul_sub, Int.mul_sub]; omega
  have near : ∀ d0 d1 e0 e1 : Int, (-2147483648 ≤ d0 ∧ d0 ≤ 2147483648) ∧ (-2147483648 ≤ d1 ∧ d1 ≤ 2147483648) → (-2147483648 ≤ e0 ∧ e0 ≤ 2147483648) ∧ (-2147483648 ≤ e1 ∧ e1 ≤ 2147483648) →
      ∀ k, 2 ≤ k → k < n → ¬ GeoI (BIG * X k) (BIG * Y k) (BIG * X (k + 1)) (BIG * Y (k + 1)) (BIG * X 1 + d0) (BIG * Y 1 + d1) (BIG * X 1 + e0) (BIG * Y 1 + e1) :=
    fun d0 d1 e0 e1 hd he k h2 hk => far_near (h.inb k) (h.inb (k + 1)) (h.inb 1) hd he (h.clear1 h2 hk)
  unfold InC at b0 b1 b2
  have hx : (-2147483648 ≤ X 0 - X 1 ∧ X 0 - X 1 ≤ 2147483648) ∧ (-2147483648 ≤ Y 0 - Y 1 ∧ Y 0 - Y 1 ≤ 2147483648) := by omega
  have hz : (-2147483648 ≤ X 2 - X 1 ∧ X 2 - X 1 ≤ 2147483648) ∧ (-2147483648 ≤ Y 2 - Y 1 ∧ Y 2 - Y 1 ≤ 2147483648) := by omega
  have z1 : ¬ (X 0 - X 1 = 0 ∧ Y 0 - Y 1 = 0) := by omega
  have z2 : ¬ (X 2 - X 1 = 0 ∧ Y 2 - Y 1 = 0) := by omega
  have ha := arm_zero BIG (X 0 - X 1) (Y 0 - Y 1)
  have hc := arm_zero BIG (X 2 - X 1) (Y 2 - Y 1)
  clear n1 n2 s1 s2 hsp b0 b1 b2
  by_cases hyt : Y 0 - Y 1 ≤ Y 2 - Y 1
  · have k := two_sides h (p0 := BIG * X 1 + (X 0 - X 1)) (p1 := BIG * Y 1 + (Y 0 - Y 1)) (q0 := BIG * X 1 + (X 2 - X 1)) (q1 := BIG * Y 1 + (Y 2 - Y 1)) (by omega) (near _ _ _ _ hx hz)
    have c := corner_up hx.2 hz.2 hyt z1 z2 hs
    have t1 := wst_tr (BIG * X 1) (BIG * Y 1) (X 0 - X 1) (Y 0 - Y 1) (BIG * (X 0 - X 1)) (BIG * (Y 0 - Y 1)) 0 0
    have t2 := wst_tr (BIG * X 1) (BIG * Y 1) (X 2 - X 1) (Y 2 - Y 1) (BIG * (X 0 - X 1)) (BIG * (Y 0 - Y 1)) 0 0
    have t3 := wst_tr (BIG * X 1) (BIG * Y 1) (X 0 - X 1) (Y 0 - Y 1) 0 0 (BIG * (X 2 - X 1)) (BIG * (Y 2 - Y 1))
    have t4 := wst_tr (BIG * X 1) (BIG * Y 1) (X 2 - X 1) (Y 2 - Y 1) 0 0 (BIG * (X 2 - X 1)) (BIG * (Y 2 - Y 1))
    have t5 := pot_tr (BIG * X 1) (BIG * Y 1) (X 0 - X 1) (Y 0 - Y 1) (X 2 - X 1) (Y 2 - Y 1) (BIG * (X 0 - X 1)) (BIG * (Y 0 - Y 1))
    have t6 := pot_tr (BIG * X 1) (BIG * Y 1) (X 0 - X 1) (Y 0 - Y 1) (X 2 - X 1) (Y 2 - Y 1) (BIG * (X 2 - X 1)) (BIG * (Y 2 - Y 1))
    rw [← e0.1, ← e0.2, ← e1.1, ← e1.2] at t1 t2
    rw [← e1.1, ← e1.2, ← e2.1, ← e2.2] at t3 t4
    rw [← e0.1, ← e0.2] at t5
    rw [← e2.1, ← e2.2] at t6
    rw [t1, t2, t3, t4, t5, t6, ha.1, hc.2] at k
    clear t1 t2 t3 t4 t5 t6 e0 e1 e2 ha hc hs near hx hz z1 z2
    omega
  · have k := two_sides h (p0 := BIG * X 1 + (X 2 - X 1)) (p1 := BIG * Y 1 + (Y 2 - Y 1)) (q0 := BIG * X 1 + (X 0 - X 1)) (q1 := BIG * Y 1 + (Y 0 - Y 1)) (by omega) (near _ _ _ _ hz hx)
    have c := corner_same hx.2 hz.2 (by omega) z1 z2 hs
    have t1 := wst_tr (BIG * X 1) (BIG * Y 1) (X 0 - X 1) (Y 0 - Y 1) (BIG * (X 0 - X 1)) (BIG * (Y 0 - Y 1)) 0 0
    have t2 := wst_tr (BIG * X 1) (BIG * Y 1) (X 2 - X 1) (Y 2 - Y 1) (BIG * (X 0 - X 1)) (BIG * (Y 0 - Y 1)) 0 0
    have t3 := wst_tr (BIG * X 1) (BIG * Y 1) (X 0 - X 1) (Y 0 - Y 1) 0 0 (BIG * (X 2 - X 1)) (BIG * (Y 2 - Y 1))
    have t4 := wst_tr (BIG * X 1) (BIG * Y 1) (X 2 - X 1) (Y 2 - Y 1) 0 0 (BIG * (X 2 - X 1)) (BIG * (Y 2 - Y 1))
    have t5 := pot_tr (BIG * X 1) (BIG * Y 1) (X 2 - X 1) (Y 2 - Y 1) (X 0 - X 1) (Y 0 - Y 1) (BIG * (X 0 - X 1)) (BIG * (Y 0 - Y 1))
    have t6 := pot_tr (BIG * X 1) (BIG * Y 1) (X 2 - X 1) (Y 2 - Y 1) (X 0 - X 1) (Y 0 - Y 1) (BIG * (X 2 - X 1)) (BIG * (Y 2 - Y 1))
    rw [← e0.1, ← e0.2, ← e1.1, ← e1.2] at t1 t2
    rw [← e1.1, ← e1.2, ← e2.1, ← e2.2] at t3 t4
    rw [← e0.1, ← e0.2] at t5
    rw [← e2.1, ← e2.2] at t6
    rw [t1, t2, t3, t4, t5, t6, ha.1, hc.2] at k
    clear t1 t2 t3 t4 t5 t6 e0 e1 e2 ha hc hs near hx hz z1 z2
    omega
end Go.Proofs.Ytjalkjeldlchoaa.X
end
section
set_option linter.unusedSectionVars false
set_option linter.unusedSimpArgs false
set_option linter.unusedVariables false
namespace Go.Proofs.Ytjalkjeldlchoaa.X
open Go Go.RowKit
set_option linter.unusedVariables false
set_option linter.unusedSimpArgs false
theorem aff (a0 a1 b0 b1 s0 s1 c0 c1 d0 d1 : Int) :
    (b0 - a0) * crossI c0 c1 d0 d1 s0 s1 = (b0 - s0) * crossI c0 c1 d0 d1 a0 a1 + (s0 - a0) * crossI c0 c1 d0 d1 b0 b1 + (d0 - c0) * crossI a0 a1 b0 b1 s0 s1 ∧
    (b1 - a1) * crossI c0 c1 d0 d1 s0 s1 = (b1 - s1) * crossI c0 c1 d0 d1 a0 a1 + (s1 - a1) * crossI c0 c1 d0 d1 b0 b1 + (d1 - c1) * crossI a0 a1 b0 b1 s0 s1 := by
  unfold crossI
  simp only [Int.mul_sub, Int.sub_mul, Int.mul_add, Int.add_mul, Int.mul_assoc, Int.mul_comm, Int.mul_left_comm]
  refine ⟨?_, ?_⟩ <;> omega
theorem part_cross (a0 a1 b0 b1 s0 s1 t0 t1 c0 c1 : Int) (hs : crossI a0 a1 b0 b1 s0 s1 = 0) (ht : crossI a0 a1 b0 b1 t0 t1 = 0) :
    (t0 - s0) * crossI a0 a1 b0 b1 c0 c1 = (b0 - a0) * crossI s0 s1 t0 t1 c0 c1 ∧ (t1 - s1) * crossI a0 a1 b0 b1 c0 c1 = (b1 - a1) * crossI s0 s1 t0 t1 c0 c1 := by
  have e0 : (t0 - s0) * crossI a0 a1 b0 b1 c0 c1 - (b0 - a0) * crossI s0 s1 t0 t1 c0 c1 = (c0 - s0) * crossI a0 a1 b0 b1 t0 t1 - (c0 - t0) * crossI a0 a1 b0 b1 s0 s1 := by
    unfold crossI
    simp only [Int.mul_sub, Int.sub_mul, Int.mul_add, Int.add_mul, Int.mul_assoc, Int.mul_comm, Int.mul_left_comm]
    omega
  have e1 : (t1 - s1) * crossI a0 a1 b0 b1 c0 c1 - (b1 - a1) * crossI s0 s1 t0 t1 c0 c1 = (c1 - s1) * crossI a0 a1 b0 b1 t0 t1 - (c1 - t1) * crossI a0 a1 b0 b1 s0 s1 := by
    unfold crossI
    simp only [Int.mul_sub, Int.sub_mul, Int.mul_add, Int.add_mul, Int.mul_assoc, Int.mul_comm, Int.mul_left_comm]
    omega
  rw [hs, ht, Int.mul_zero, Int.mul_zero] at e0 e1
  omega
theorem same_between {a b s A B S : Int} (h : (b - a) * S = (b - s) * A + (s - a) * B) (hb : Btw a b s) (hne : a ≠ b) (hs : Same A B) : Same A S := by
  have key : ∀ a b s A B S : Int, (b - a) * S = (b - s) * A + (s - a) * B → a ≤ s → s ≤ b → a < b → 0 < A → 0 < B → 0 < S := by
    intro a b s A B S h h1 h2 h3 hA hB
    have k1 := Int.mul_nonneg (show 0 ≤ b - s by omega) (Int.le_of_lt hA)
    have k2 := Int.mul_nonneg (show 0 ≤ s - a by omega) (Int.le_of_lt hB)
    have k3 : 0 < (b - a) * S := by
      by_cases c : s = b
      · have := Int.mul_pos (show 0 < s - a by omega) hB
        omega
      · have := Int.mul_pos (show 0 < b - s by omega) hA
        omega
    by_cases c : 0 < S
    · exact c
    · have := Int.mul_nonneg (show 0 ≤ b - a by omega) (show 0 ≤ -S by omega)
      rw [Int.mul_neg] at this
      omega
  have h' : (a - b) * S = (a - s) * B + (s - b) * A := by
    rw [show a - b = -(b - a) by omega, show a - s = -(s - a) by omega, show s - b = -(b - s) by omega, Int.neg_mul, Int.neg_mul, Int.neg_mul]
    omega
  unfold Same at *
  unfold Btw at hb
  rcases hs with ⟨hA, hB⟩ | ⟨hA, hB⟩
  · rcases hb with ⟨g1, g2⟩ | ⟨g1, g2⟩
    · exact .inl ⟨hA, key a b s A B S h g1 g2 (by omega) hA hB⟩
    · exact .inl ⟨hA, key b a s B A S h' g1 g2 (by omega) hB hA⟩
  · rcases hb with ⟨g1, g2⟩ | ⟨g1, g2⟩
    · have := key a b s (-A) (-B) (-S) (by rw [Int.mul_neg, Int.mul_neg, Int.mul_neg]; omega) g1 g2 (by omega) (by omega) (by omega)
      exact .inr ⟨hA, by omega⟩
    · have := key b a s (-B) (-A) (-S) (by rw [Int.mul_neg, Int.mul_neg, Int.mul_neg]; omega) g1 g2 (by omega) (by omega) (by omega)
      exact .inr ⟨hA, by omega⟩
theorem same_scale {u v A B A' B' : Int} (h1 : u * A = v * A') (h2 : u * B = v * B') (hu : u ≠ 0) (hs : Same A B) : Same A' B' := by
  have pos : ∀ u v A A' : Int, u * A = v * A' → 0 < u → A ≠ 0 → v ≠ 0 := by
    intro u v A A' h hu hA e
    rw [e, Int.zero_mul] at h
    rcases Int.mul_eq_zero.1 h with g | g <;> omega
  have key : ∀ u v A A' : Int, u * A = v * A' → 0 < u → 0 < v → (0 < A → 0 < A') ∧ (A < 0 → A' < 0) := by
    intro u v A A' h hu hv
    have a := mul_sg (u := A) hu
    have b := mul_sg (u := A') hv
    rw [Int.mul_comm A u] at a
    rw [Int.mul_comm A' v] at b
    refine ⟨fun g => ?_, fun g => ?_⟩
    · have := a.1 g
      by_cases c : 0 < A'
      · exact c
      · have := b.2.2.2 (by omega); omega
    · have := a.2.1 g
      by_cases c : A' < 0
      · exact c
      · have := b.2.2.1 (by omega); omega
  have hv : v ≠ 0 := by
    intro e
    rw [e, Int.zero_mul] at h1
    unfold Same at hs
    rcases Int.mul_eq_zero.1 h1 with g | g
    · exact hu g
    · omega
  have n1 : (-u) * A = (-v) * A' := by rw [Int.neg_mul, Int.neg_mul, h1]
  have n2 : (-u) * B = (-v) * B' := by rw [Int.neg_mul, Int.neg_mul, h2]
  have m1 : u * A = (-v) * (-A') := by rw [Int.neg_mul_neg, h1]
  have m2 : u * B = (-v) * (-B') := by rw [Int.neg_mul_neg, h2]
  have o1 : (-u) * A = v * (-A') := by rw [Int.neg_mul, Int.mul_neg, h1]
  have o2 : (-u) * B = v * (-B') := by rw [Int.neg_mul, Int.mul_neg, h2]
  unfold Same at *
  by_cases cu : 0 < u
  · by_cases cv : 0 < v
    · have k1 := key u v A A' h1 cu cv
      have k2 := key u v B B' h2 cu cv
      rcases hs with ⟨a, b⟩ | ⟨a, b⟩
      · exact .inl ⟨k1.1 a, k2.1 b⟩
      · exact .inr ⟨k1.2 a, k2.2 b⟩
    · have k1 := key u (-v) A (-A') m1 cu (by omega)
      have k2 := key u (-v) B (-B') m2 cu (by omega)
      rcases hs with ⟨a, b⟩ | ⟨a, b⟩
      · have := k1.1 a; have := k2.1 b; exact .inr ⟨by omega, by omega⟩
      · have := k1.2 a; have := k2.2 b; exact .inl ⟨by omega, by omega⟩
  · by_cases cv : 0 < v
    · have k1 := key (-u) v A (-A') o1 (by omega) cv
      have k2 := key (-u) v B (-B') o2 (by omega) cv
      rcases hs with ⟨a, b⟩ | ⟨a, b⟩
      · have := k1.1 a; have := k2.1 b; exact .inr ⟨by omega, by omega⟩
      · have := k1.2 a; have := k2.2 b; exact .inl ⟨by omega, by omega⟩
    · have k1 := key (-u) (-v) A A' n1 (by omega) (by omega)
      have k2 := key (-u) (-v) B B' n2 (by omega) (by omega)
      rcases hs with ⟨a, b⟩ | ⟨a, b⟩
      · exact .inl ⟨k1.1 a, k2.1 b⟩
      · exact .inr ⟨k1.2 a, k2.2 b⟩
theorem btw_ne {a b s t : Int} (hs : Btw a b s) (ht : Btw a b t) (h : s ≠ t) : a ≠ b := by unfold Btw at *; omega
theorem ov_part {a b s t c d : Int} (hs : Btw a b s) (ht : Btw a b t) (h : Ov c d s t) : Ov c d a b := by unfold Ov Btw at *; omega
theorem same_join {A S T : Int} (h1 : Same A S) (h2 : Same A T) : Same S T := by unfold Same at *; omega
theorem sub_meet {a0 a1 b0 b1 s0 s1 t0 t1 c0 c1 d0 d1 : Int} (hs : OnI a0 a1 b0 b1 s0 s1) (ht : OnI a0 a1 b0 b1 t0 t1) (hst : ¬ (s0 = t0 ∧ s1 = t1)) (h : GeoI c0 c1 d0 d1 s0 s1 t0 t1) : GeoI c0 c1 d0 d1 a0 a1 b0 b1 := by
  obtain ⟨ox, oy, f, g⟩ := h
  obtain ⟨zs, sx, sy⟩ := hs
  obtain ⟨zt, tx, ty⟩ := ht
  refine ⟨ov_part sx tx ox, ov_part sy ty oy, fun hS => f ?_, fun hS => g ?_⟩
  · have as_ := aff a0 a1 b0 b1 s0 s1 c0 c1 d0 d1
    have at_ := aff a0 a1 b0 b1 t0 t1 c0 c1 d0 d1
    rw [zs, Int.mul_zero, Int.mul_zero, Int.add_zero, Int.add_zero] at as_
    rw [zt, Int.mul_zero, Int.mul_zero, Int.add_zero, Int.add_zero] at at_
    by_cases c : s0 = t0
    · have ne := btw_ne sy ty (fun e => hst ⟨c, e⟩)
      exact same_join (same_between as_.2 sy ne hS) (same_between at_.2 ty ne hS)
    · have ne := btw_ne sx tx c
      exact same_join (same_between as_.1 sx ne hS) (same_between at_.1 tx ne hS)
  · have pc := part_cross a0 a1 b0 b1 s0 s1 t0 t1 c0 c1 zs zt
    have pd := part_cross a0 a1 b0 b1 s0 s1 t0 t1 d0 d1 zs zt
    by_cases c : s0 = t0
    · exact same_scale pc.2 pd.2 (fun e => hst ⟨c, by omega⟩) hS
    · exact same_scale pc.1 pd.1 (fun e => c (by omega)) hS
theorem sub_meet1 {a0 a1 b0 b1 s0 s1 c0 c1 d0 d1 : Int} (hs : OnI a0 a1 b0 b1 s0 s1) (h : OnI c0 c1 d0 d1 s0 s1) : GeoI c0 c1 d0 d1 a0 a1 b0 b1 := by
  obtain ⟨zs, sx, sy⟩ := hs
  obtain ⟨z, cx, cy⟩ := h
  have cb : ∀ a b c d s : Int, Btw a b s → Btw c d s → Ov c d a b := by intro a b c d s h1 h2; unfold Btw at *; unfold Ov; omega
  have key : ∀ a0 a1 b0 b1 s0 s1 c0 c1 d0 d1 : Int, crossI a0 a1 b0 b1 s0 s1 = 0 → Btw a0 b0 s0 → Btw a1 b1 s1 → crossI c0 c1 d0 d1 s0 s1 = 0 → ¬ Same (crossI c0 c1 d0 d1 a0 a1) (crossI c0 c1 d0 d1 b0 b1) := by
    intro a0 a1 b0 b1 s0 s1 c0 c1 d0 d1 zs sx sy z hS
    have as_ := aff a0 a1 b0 b1 s0 s1 c0 c1 d0 d1
    rw [zs, Int.mul_zero, Int.mul_zero, Int.add_zero, Int.add_zero] at as_
    have no : ∀ A B : Int, Same A B → ¬ Same A 0 := by intro A B h1 h2; unfold Same at h2; omega
    by_cases c : a0 = b0
    · by_cases cq : a1 = b1
      · have e : crossI c0 c1 d0 d1 a0 a1 = 0 := by
          rw [show a0 = s0 by unfold Btw at sx; omega, show a1 = s1 by unfold Btw at sy; omega]; exact z
        rw [e] at hS
        unfold Same at hS
        omega
      · have := same_between as_.2 sy cq hS
        rw [z] at this
        exact no _ _ hS this
    · have := same_between as_.1 sx c hS
      rw [z] at this
      exact no _ _ hS this
  exact ⟨cb _ _ _ _ _ sx cx, cb _ _ _ _ _ sy cy, key _ _ _ _ _ _ _ _ _ _ zs sx sy z, key _ _ _ _ _ _ _ _ _ _ z cx cy zs⟩
theorem dot_sign {x y z t : Int} (hs : x * t - y * z = 0 → x * z + y * t < 0) (h : x * t - y * z = 0) : (¬ (0 < y ∧ 0 < t) ∧ ¬ (y < 0 ∧ t < 0)) ∧ (¬ (0 < x ∧ 0 < z) ∧ ¬ (x < 0 ∧ z < 0)) :=
  ⟨no_spike_sign hs h, no_spike_sign (x := y) (y := x) (z := t) (t := z) (fun e => by have := hs (by omega); omega) (by omega)⟩
theorem off_end {a0 a1 b0 b1 s0 s1 : Int} (hs : OnI a0 a1 b0 b1 s0 s1) (hb : ¬ (s0 = b0 ∧ s1 = b1)) : (a0 ≠ b0 → s0 ≠ b0) ∧ (a1 ≠ b1 → s1 ≠ b1) := by
  obtain ⟨z, _, _⟩ := hs
  unfold crossI at z
  refine ⟨fun h e => ?_, fun h e => ?_⟩
  · have : (b0 - a0) * (s1 - b1) = 0 := by
      rw [e] at z
      have : (b0 - a0) * (s1 - b1) = (b0 - a0) * (s1 - a1) - (b1 - a1) * (b0 - a0) := by rw [Int.mul_comm (b1 - a1), ← Int.mul_sub]; congr 1; omega
      omega
    rcases Int.mul_eq_zero.1 this with g | g
    · omega
    · exact hb ⟨e, by omega⟩
  · have : (b1 - a1) * (s0 - b0) = 0 := by
      rw [e] at z
      have : (b1 - a1) * (s0 - b0) = (b1 - a1) * (s0 - a0) - (b0 - a0) * (b1 - a1) := by rw [Int.mul_comm (b0 - a0), ← Int.mul_sub]; congr 1; omega
      omega
    rcases Int.mul_eq_zero.1 this with g | g
    · omega
    · exact hb ⟨by omega, e⟩
theorem ov_apart {a b c s t : Int} (h1 : ¬ (0 < a - b ∧ 0 < c - b)) (h2 : ¬ (a - b < 0 ∧ c - b < 0)) (hs : Btw a b s) (ht : Btw a b t) (hn : a ≠ b) (ns : s ≠ b) (nt : t ≠ b) : ¬ Ov b c s t := by
  unfold Ov Btw at *; omega
theorem adj {a0 a1 b0 b1 c0 c1 s0 s1 t0 t1 : Int} (hd : (a0 - b0) * (c1 - b1) - (a1 - b1) * (c0 - b0) = 0 → (a0 - b0) * (c0 - b0) + (a1 - b1) * (c1 - b1) < 0) (hab : ¬ (a0 = b0 ∧ a1 = b1))
    (hs : OnI a0 a1 b0 b1 s0 s1) (ht : OnI a0 a1 b0 b1 t0 t1) (ns : ¬ (s0 = b0 ∧ s1 = b1)) (nt : ¬ (t0 = b0 ∧ t1 = b1)) : ¬ GeoI b0 b1 c0 c1 s0 s1 t0 t1 := by
  rintro ⟨ox, oy, f, _⟩
  have es := off_end hs ns
  have et := off_end ht nt
  obtain ⟨zs, sx, sy⟩ := hs
  obtain ⟨zt, tx, ty⟩ := ht
  by_cases z : crossI b0 b1 c0 c1 a0 a1 = 0
  · have hc : (a0 - b0) * (c1 - b1) - (a1 - b1) * (c0 - b0) = 0 := by
      unfold crossI at z
      rw [Int.mul_comm (a0 - b0), Int.mul_comm (a1 - b1)]
      omega
    have g := dot_sign hd hc
    by_cases c : a0 = b0
    · have cq : a1 ≠ b1 := fun e => hab ⟨c, e⟩
      exact ov_apart g.1.1 g.1.2 sy ty cq (es.2 cq) (et.2 cq) oy
    · exact ov_apart g.2.1 g.2.2 sx tx c (es.1 c) (et.1 c) ox
  · apply f
    have zb : crossI b0 b1 c0 c1 b0 b1 = 0 := by unfold crossI; simp
    have key : ∀ r0 r1 : Int, crossI a0 a1 b0 b1 r0 r1 = 0 → Btw a0 b0 r0 → Btw a1 b1 r1 → (a0 ≠ b0 → r0 ≠ b0) ∧ (a1 ≠ b1 → r1 ≠ b1) → Same (crossI b0 b1 c0 c1 a0 a1) (crossI b0 b1 c0 c1 r0 r1) := by
      intro r0 r1 zr rx ry er
      have as_ := aff a0 a1 b0 b1 r0 r1 b0 b1 c0 c1
      rw [zr, zb, Int.mul_zero, Int.mul_zero, Int.mul_zero, Int.mul_zero, Int.add_zero, Int.add_zero, Int.add_zero, Int.add_zero] at as_
      clear zr zb es et ns nt ox oy f zs zt sx sy tx ty hd
      have pos : ∀ a b r A S : Int, (b - a) * S = (b - r) * A → Btw a b r → a ≠ b → r ≠ b → A ≠ 0 → Same A S := by
        intro a b r A S e h1 h2 h3 hA
        have one : ∀ u v A S : Int, u * S = v * A → 0 < u → 0 < v → A ≠ 0 → Same A S := by
          intro u v A S e hu hv hA
          have a := mul_sg (u := A) hv
          have b := mul_sg (u := S) hu
          rw [Int.mul_comm A v] at a
          rw [Int.mul_comm S u] at b
          unfold Same
          by_cases g : 0 < A
          · have := a.1 g
            by_cases k : 0 < S
            · exact .inl ⟨g, k⟩
            · have := b.2.2.2 (by omega); omega
          · have := a.2.1 (by omega)
            by_cases k : S < 0
            · exact .inr ⟨by omega, k⟩
            · have := b.2.2.1 (by omega); omega
        unfold Btw at h1
        by_cases g : a < b
        · exact one (b - a) (b - r) A S e (by omega) (by omega) hA
        · refine one (a - b) (r - b) A S ?_ (by omega) (by omega) hA
          rw [show a - b = -(b - a) by omega, show r - b = -(b - r) by omega, Int.neg_mul, Int.neg_mul, e]
      by_cases c : a0 = b0
      · have cq : a1 ≠ b1 := fun e => hab ⟨c, e⟩
        exact pos _ _ _ _ _ as_.2 ry cq (er.2 cq) z
      · exact pos _ _ _ _ _ as_.1 rx c (er.1 c) z
    exact same_join (key s0 s1 zs sx sy es) (key t0 t1 zt tx ty et)
end Go.Proofs.Ytjalkjeldlchoaa.X
end
section
set_option linter.unusedSectionVars false
set_option linter.unusedSimpArgs false
set_option linter.unusedVariables false
namespace Go.Proofs.Ytjalkjeldlchoaa.X
open Go Go.RowKit
set_option linter.unusedVariables false
set_option linter.unusedSimpArgs false
theorem cross_scale (M a0 a1 b0 b1 p0 p1 : Int) : crossI (M * a0) (M * a1) (M * b0) (M * b1) (M * p0) (M * p1) = M * M * crossI a0 a1 b0 b1 p0 p1 := by
  unfold crossI
  simp only [Int.mul_sub, Int.sub_mul, Int.mul_assoc, Int.mul_comm, Int.mul_left_comm]
theorem scale_sg {M A : Int} (hM : 0 < M) : (0 < M * M * A ↔ 0 < A) ∧ (M * M * A < 0 ↔ A < 0) := by
  have := sign_mul (u := A) (Int.mul_pos hM hM)
  rwa [Int.mul_comm A] at this
theorem same_scaled {M A B : Int} (hM : 0 < M) : Same (M * M * A) (M * M * B) ↔ Same A B := by
  have a := scale_sg (A := A) hM
  have b := scale_sg (A := B) hM
  unfold Same
  simp only [gt_iff_lt, a, b]
theorem sc_le {M a b : Int} (hM : 0 < M) : M * a ≤ M * b ↔ a ≤ b := Int.mul_le_mul_left hM
theorem sc_lt {M a b : Int} (hM : 0 < M) : M * a < M * b ↔ a < b := Int.mul_lt_mul_left hM
theorem sc_eq {M a b : Int} (hM : 0 < M) : M * a = M * b ↔ a = b := Int.mul_eq_mul_left_iff (by omega)
theorem geo_scale {M a0 a1 b0 b1 c0 c1 d0 d1 : Int} (hM : 0 < M) : GeoI (M * a0) (M * a1) (M * b0) (M * b1) (M * c0) (M * c1) (M * d0) (M * d1) ↔ GeoI a0 a1 b0 b1 c0 c1 d0 d1 := by
  unfold GeoI Ov
  simp only [cross_scale, same_scaled hM, sc_le hM]
theorem wst_scale {M p0 p1 a0 a1 b0 b1 : Int} (hM : 0 < M) : wst (M * p0) (M * p1) (M * a0) (M * a1) (M * b0) (M * b1) = wst p0 p1 a0 a1 b0 b1 := by
  have s := scale_sg (A := crossI a0 a1 b0 b1 p0 p1) hM
  unfold wst
  simp only [cross_scale, sc_le hM, sc_lt hM, gt_iff_lt, s]
/-- A closed polygon whose sides meet at its corners alone: with no bound. -/
structure Poly (n : Nat) (X Y : Nat → Int) : Prop where
  three : 3 ≤ n
  perX : ∀ i, X (i + n) = X i
  perY : ∀ i, Y (i + n) = Y i
  far : ∀ i d, 2 ≤ d → d + 2 ≤ n → ¬ GeoI (X i) (Y i) (X (i + 1)) (Y (i + 1)) (X (i + d)) (Y (i + d)) (X (i + d + 1)) (Y (i + d + 1))
  ne : ∀ i, ¬ (X i = X (i + 1) ∧ Y i = Y (i + 1))
  dot : ∀ i, (X i - X (i + 1)) * (Y (i + 2) - Y (i + 1)) - (Y i - Y (i + 1)) * (X (i + 2) - X (i + 1)) = 0 → (X i - X (i + 1)) * (X (i + 2) - X (i + 1)) + (Y i - Y (i + 1)) * (Y (i + 2) - Y (i + 1)) < 0
theorem Simp.poly {n : Nat} {X Y : Nat → Int} (h : Simp n X Y) : Poly n X Y := by
  refine ⟨h.three, h.perX, h.perY, h.far, h.ne, fun i => ?_⟩
  have n1 := h.ne i
  have n2 := h.ne (i + 1)
  have s1 := h.sp1 i
  have s2 := h.sp2 i
  rw [show i + 1 + 1 = i + 2 by omega] at n2
  refine no_spike (x := X i - X (i + 1)) (y := Y i - Y (i + 1)) (z := X (i + 2) - X (i + 1)) (t := Y (i + 2) - Y (i + 1)) (by omega) (by omega) ?_
  rintro ⟨g1, g2⟩
  have hc : crossI (X i) (Y i) (X (i + 1)) (Y (i + 1)) (X (i + 2)) (Y (i + 2)) = 0 := by
    have : crossI (X i) (Y i) (X (i + 1)) (Y (i + 1)) (X (i + 2)) (Y (i + 2)) = -((X i - X (i + 1)) * (Y (i + 2) - Y (i + 1)) - (Y i - Y (i + 1)) * (X (i + 2) - X (i + 1))) := by
      unfold crossI
      simp only [Int.mul_sub, Int.sub_mul, Int.mul_comm]
      omega
    rw [this, g1]
    rfl
  rcases (spike_iff n1 n2).1 ⟨hc, g2⟩ with g | g
  · exact s1 g
  · exact s2 g
theorem Poly.scale {n : Nat} {X Y : Nat → Int} (h : Poly n X Y) {M : Int} (hM : 0 < M) : Poly n (fun k => M * X k) (fun k => M * Y k) := by
  refine ⟨h.three, fun i => ?_, fun i => ?_, fun i d h1 h2 => ?_, fun i => ?_, fun i => ?_⟩
  · show M * X (i + n) = M * X i; rw [h.perX]
  · show M * Y (i + n) = M * Y i; rw [h.perY]
  · exact fun g => h.far i d h1 h2 ((geo_scale hM).1 g)
  · have := h.ne i
    show ¬ (M * X i = M * X (i + 1) ∧ M * Y i = M * Y (i + 1))
    rw [sc_eq hM, sc_eq hM]
    exact this
  · have := h.dot i
    show (M * X i - M * X (i + 1)) * (M * Y (i + 2) - M * Y (i + 1)) - (M * Y i - M * Y (i + 1)) * (M * X (i + 2) - M * X (i + 1)) = 0 → (M * X i - M * X (i + 1)) * (M * X (i + 2) - M * X (i + 1)) + (M * Y i - M * Y (i + 1)) * (M * Y (i + 2) - M * Y (i + 1)) < 0
    have k : ∀ u v : Int, (M * u) * (M * v) = M * M * (u * v) := fun u v => by simp only [Int.mul_assoc, Int.mul_left_comm]
    simp only [← Int.mul_sub, k, ← Int.mul_add]
    intro g
    rw [(scale_sg hM).2]
    refine this ?_
    rcases Int.mul_eq_zero.1 g with g | g
    · have := Int.mul_pos hM hM; omega
    · exact g
theorem Poly.shift {n : Nat} {X Y : Nat → Int} (h : Poly n X Y) (s : Nat) : Poly n (fun k => X (k + s)) (fun k => Y (k + s)) := by
  have e : ∀ i d : Nat, i + d + s = i + s + d := fun i d => by omega
  refine ⟨h.three, fun i => ?_, fun i => ?_, fun i d h1 h2 => ?_, fun i => ?_, fun i => ?_⟩
  · show X (i + n + s) = X (i + s); rw [e, h.perX]
  · show Y (i + n + s) = Y (i + s); rw [e, h.perY]
  · have := h.far (i + s) d h1 h2
    show ¬ GeoI (X (i + s)) (Y (i + s)) (X (i + 1 + s)) (Y (i + 1 + s)) (X (i + d + s)) (Y (i + d + s)) (X (i + d + 1 + s)) (Y (i + d + 1 + s))
    rw [e i 1, e i d, show i + d + 1 + s = i + s + d + 1 by omega]
    exact this
  · show ¬ (X (i + s) = X (i + 1 + s) ∧ Y (i + s) = Y (i + 1 + s)); rw [e]; exact h.ne _
  · have := h.dot (i + s)
    show (X (i + s) - X (i + 1 + s)) * (Y (i + 2 + s) - Y (i + 1 + s)) - (Y (i + s) - Y (i + 1 + s)) * (X (i + 2 + s) - X (i + 1 + s)) = 0 → (X (i + s) - X (i + 1 + s)) * (X (i + 2 + s) - X (i + 1 + s)) + (Y (i + s) - Y (i + 1 + s)) * (Y (i + 2 + s) - Y (i + 1 + s)) < 0
    rw [e, e]
    exact this
def W0 (n : Nat) (X Y : Nat → Int) (p q : Int) : Int := sm (fun k => wst p q (X k) (Y k) (X (k + 1)) (Y (k + 1))) n
theorem WN_W0 (n : Nat) (X Y : Nat → Int) (M p q : Int) : WN n X Y M p q = W0 n (fun k => M * X k) (fun k => M * Y k) p q := rfl
theorem W0_shift {n : Nat} {X Y : Nat → Int} (h : Poly n X Y) (p q : Int) (s : Nat) : W0 n (fun k => X (k + s)) (fun k => Y (k + s)) p q = W0 n X Y p q := by
  have := sm_shift (h := fun k => wst p q (X k) (Y k) (X (k + 1)) (Y (k + 1))) (n := n) (fun k => by
    show wst p q (X (k + n)) (Y (k + n)) (X (k + n + 1)) (Y (k + n + 1)) = _
    rw [show k + n + 1 = k + 1 + n by omega, h.perX, h.perY, h.perX, h.perY]) s
  unfold W0
  rw [← this]
  exact sm_congr n fun k _ => by
    show wst p q (X (k + s)) (Y (k + s)) (X (k + 1 + s)) (Y (k + 1 + s)) = wst p q (X (k + s)) (Y (k + s)) (X (k + s + 1)) (Y (k + s + 1))
    rw [show k + 1 + s = k + s + 1 by omega]
theorem W0_scale {n : Nat} {X Y : Nat → Int} {M : Int} (hM : 0 < M) (p q : Int) : W0 n (fun k => M * X k) (fun k => M * Y k) (M * p) (M * q) = W0 n X Y p q :=
  sm_congr n fun k _ => wst_scale hM
theorem on_rev {a0 a1 b0 b1 s0 s1 : Int} (h : OnI a0 a1 b0 b1 s0 s1) : OnI b0 b1 a0 a1 s0 s1 := by
  obtain ⟨z, x, y⟩ := h
  have := cross_back a0 a1 b0 b1 s0 s1
  refine ⟨by omega, ?_, ?_⟩
  · unfold Btw at *; omega
  · unfold Btw at *; omega
theorem sm_one (h : Nat → Int) : ∀ n, 1 ≤ n → (∀ k, 1 ≤ k → k < n → h k = 0) → sm h n = h 0
  | 0, h1, _ => by omega
  | 1, _, _ => by rw [sm, sm]; omega
  | n + 2, _, hz => by rw [sm, sm_one h (n + 1) (by omega) fun k h1 h2 => hz k h1 (by omega), hz (n + 1) (by omega) (by omega)]; omega
def Mid (a0 a1 b0 b1 s0 s1 : Int) : Prop := OnI a0 a1 b0 b1 s0 s1 ∧ ¬ (s0 = a0 ∧ s1 = a1) ∧ ¬ (s0 = b0 ∧ s1 = b1)
theorem Poly.mid_meet {n : Nat} {X Y : Nat → Int} (h : Poly n X Y) {s0 s1 t0 t1 : Int} (hs : Mid (X 0) (Y 0) (X 1) (Y 1) s0 s1) (ht : Mid (X 0) (Y 0) (X 1) (Y 1) t0 t1) :
    ∀ k, 1 ≤ k → k < n → ¬ GeoI (X k) (Y k) (X (k + 1)) (Y (k + 1)) s0 s1 t0 t1 := by
  intro k h1 hk
  have h3 := h.three
  by_cases c1 : k = 1
  · subst c1
    exact adj (h.dot 0) (h.ne 0) hs.1 ht.1 hs.2.2 ht.2.2
  · by_cases c2 : k = n - 1
    · subst c2
      have ep : X (n - 1 + 1) = X 0 ∧ Y (n - 1 + 1) = Y 0 ∧ X (n - 1 + 2) = X 1 ∧ Y (n - 1 + 2) = Y 1 := by
        rw [show n - 1 + 1 = 0 + n by omega, show n - 1 + 2 = 1 + n by omega, h.perX, h.perY, h.perX, h.perY]
        exact ⟨rfl, rfl, rfl, rfl⟩
      have d := h.dot (n - 1)
      rw [ep.1, ep.2.1] at *
      rw [ep.2.2.1, ep.2.2.2] at d
      have n0 := h.ne 0
      rw [Nat.zero_add] at n0
      intro g
      refine adj (a0 := X 1) (a1 := Y 1) (b0 := X 0) (b1 := Y 0) (c0 := X (n - 1)) (c1 := Y (n - 1)) ?_ (by omega) (on_rev hs.1) (on_rev ht.1) hs.2.1 ht.2.1 (geo_turn2 (geo_swap (geo_turn2 g)))
      intro e
      rw [Int.mul_comm (X 1 - X 0) (X (n - 1) - X 0), Int.mul_comm (Y 1 - Y 0) (Y (n - 1) - Y 0)]
      refine d ?_
      rw [Int.mul_comm (X (n - 1) - X 0), Int.mul_comm (Y (n - 1) - Y 0)]
      omega
    · have f := h.far 0 k (by omega) (by omega)
      rw [Nat.zero_add, Nat.zero_add] at f
      intro g
      by_cases e : s0 = t0 ∧ s1 = t1
      · rw [← e.1, ← e.2] at g
        have hon : OnI (X k) (Y k) (X (k + 1)) (Y (k + 1)) s0 s1 := by
          rcases geo_ref g with g | g | g | g | g
          · exact g
          · exact g
          · obtain ⟨_, g2, g3⟩ := g
            have e1 : X k = s0 := by unfold Btw at g2; omega
            have e2 : Y k = s1 := by unfold Btw at g3; omega
            rw [e1, e2]
            refine ⟨by unfold crossI; simp, ?_, ?_⟩
            · unfold Btw; omega
            · unfold Btw; omega
          · obtain ⟨_, g2, g3⟩ := g
            have e1 : X (k + 1) = s0 := by unfold Btw at g2; omega
            have e2 : Y (k + 1) = s1 := by unfold Btw at g3; omega
            rw [e1, e2]
            refine ⟨by unfold crossI; rw [Int.mul_comm]; omega, ?_, ?_⟩
            · unfold Btw; omega
            · unfold Btw; omega
          · have := g.1
            unfold Opp at this
            omega
        exact f (geo_turn2 (sub_meet1 hs.1 hon))
      · exact f (geo_turn2 (sub_meet hs.1 ht.1 e g))
theorem own_zero {a0 a1 b0 b1 s0 s1 t0 t1 : Int} (hab : ¬ (a0 = b0 ∧ a1 = b1)) (hs : OnI a0 a1 b0 b1 s0 s1) (ht : OnI a0 a1 b0 b1 t0 t1) :
    wst s0 s1 a0 a1 b0 b1 = 0 ∧ pot s0 s1 t0 t1 a0 a1 = 0 ∧ pot s0 s1 t0 t1 b0 b1 = 0 := by
  have za : crossI a0 a1 b0 b1 a0 a1 = 0 := by unfold crossI; simp
  have zb : crossI a0 a1 b0 b1 b0 b1 = 0 := by unfold crossI; rw [Int.mul_comm]; omega
  have pa := part_cross a0 a1 b0 b1 s0 s1 t0 t1 a0 a1 hs.1 ht.1
  have pb := part_cross a0 a1 b0 b1 s0 s1 t0 t1 b0 b1 hs.1 ht.1
  rw [za, Int.mul_zero, Int.mul_zero] at pa
  rw [zb, Int.mul_zero, Int.mul_zero] at pb
  have key : ∀ z : Int, 0 = (b0 - a0) * z → 0 = (b1 - a1) * z → z = 0 := by
    intro z h1 h2
    rcases Int.mul_eq_zero.1 h1.symm with g | g
    · rcases Int.mul_eq_zero.1 h2.symm with k | k
      · exact absurd ⟨by omega, by omega⟩ hab
      · exact k
    · exact g
  have ca := key _ pa.1 pa.2
  have cb := key _ pb.1 pb.2
  have hz := hs.1
  unfold wst pot
  rw [hz, ca, cb]
  refine ⟨?_, ?_, ?_⟩
  · rw [if_neg (fun g => by omega), if_neg (fun g => by omega)]
  · rw [if_neg (fun g => by omega)]
  · rw [if_neg (fun g => by omega)]
theorem Poly.along_up {n : Nat} {X Y : Nat → Int} (h : Poly n X Y) {s0 s1 t0 t1 : Int} (hs : Mid (X 0) (Y 0) (X 1) (Y 1) s0 s1) (ht : Mid (X 0) (Y 0) (X 1) (Y 1) t0 t1) (hst : s1 ≤ t1) :
    W0 n X Y s0 s1 = W0 n X Y t0 t1 := by
  have h3 := h.three
  have n0 := h.ne 0
  rw [Nat.zero_add] at n0
  have k1 := sm_one (fun k => (wst s0 s1 (X k) (Y k) (X (k + 1)) (Y (k + 1)) - wst t0 t1 (X k) (Y k) (X (k + 1)) (Y (k + 1))) - ((fun i => pot s0 s1 t0 t1 (X i) (Y i)) (k + 1) - (fun i => pot s0 s1 t0 t1 (X i) (Y i)) k)) n (by omega) (fun k h1 hk => by
    have := edge_same hst (h.mid_meet hs ht k h1 hk)
    show (wst s0 s1 (X k) (Y k) (X (k + 1)) (Y (k + 1)) - wst t0 t1 (X k) (Y k) (X (k + 1)) (Y (k + 1))) - (pot s0 s1 t0 t1 (X (k + 1)) (Y (k + 1)) - pot s0 s1 t0 t1 (X k) (Y k)) = 0
    omega)
  rw [sm_sub, sm_sub, sm_tele (fun i => pot s0 s1 t0 t1 (X i) (Y i))] at k1
  have ep : X n = X 0 ∧ Y n = Y 0 := by
    have a := h.perX 0
    have b := h.perY 0
    rw [Nat.zero_add] at a b
    exact ⟨a, b⟩
  have o := own_zero n0 hs.1 ht.1
  have o2 := own_zero n0 ht.1 hs.1
  simp only [ep.1, ep.2, Nat.zero_add, o.1, o.2.1, o.2.2, o2.1] at k1
  unfold W0
  omega
theorem Poly.along {n : Nat} {X Y : Nat → Int} (h : Poly n X Y) (i : Nat) {s0 s1 t0 t1 : Int} (hs : Mid (X i) (Y i) (X (i + 1)) (Y (i + 1)) s0 s1) (ht : Mid (X i) (Y i) (X (i + 1)) (Y (i + 1)) t0 t1) :
    W0 n X Y s0 s1 = W0 n X Y t0 t1 := by
  have hs' : Mid (X (0 + i)) (Y (0 + i)) (X (1 + i)) (Y (1 + i)) s0 s1 := by rw [Nat.zero_add, Nat.add_comm 1 i]; exact hs
  have ht' : Mid (X (0 + i)) (Y (0 + i)) (X (1 + i)) (Y (1 + i)) t0 t1 := by rw [Nat.zero_add, Nat.add_comm 1 i]; exact ht
  rw [← W0_shift h s0 s1 i, ← W0_shift h t0 t1 i]
  by_cases c : s1 ≤ t1
  · exact (h.shift i).along_up hs' ht' c
  · exact ((h.shift i).along_up ht' hs' (by omega)).symm
end Go.Proofs.Ytjalkjeldlchoaa.X
end
section
set_option linter.unusedSectionVars false
set_option linter.unusedSimpArgs false
set_option linter.unusedVariables false
namespace Go.Proofs.Ytjalkjeldlchoaa.X
open Go Go.RowKit
set_option linter.unusedVariables false
set_option linter.unusedSimpArgs false
theorem mid_near {a0 a1 b0 b1 : Int} (h : ¬ (a0 = b0 ∧ a1 = b1)) : Mid (BIG * a0) (BIG * a1) (BIG * b0) (BIG * b1) (BIG * a0 + (b0 - a0)) (BIG * a1 + (b1 - a1)) ∧ Mid (BIG * a0) (BIG * a1) (BIG * b0) (BIG * b1) (BIG * b0 + (a0 - b0)) (BIG * b1 + (a1 - b1)) := by
  have e1 := cross_near BIG a0 a1 b0 b1 a0 a1 (b0 - a0) (b1 - a1)
  have e2 := cross_near BIG a0 a1 b0 b1 b0 b1 (a0 - b0) (a1 - b1)
  have za : crossI a0 a1 b0 b1 a0 a1 = 0 := by unfold crossI; simp
  have zb : crossI a0 a1 b0 b1 b0 b1 = 0 := by unfold crossI; rw [Int.mul_comm]; omega
  rw [za, Int.mul_zero, Int.zero_add, Int.mul_comm (b0 - a0), Int.sub_self, Int.mul_zero] at e1
  have z : (b0 - a0) * (a1 - b1) - (b1 - a1) * (a0 - b0) = 0 := by
    rw [show a1 - b1 = -(b1 - a1) by omega, show a0 - b0 = -(b0 - a0) by omega, Int.mul_neg, Int.mul_neg, Int.mul_comm]
    omega
  rw [zb, Int.mul_zero, Int.zero_add, z, Int.mul_zero] at e2
  have b : ∀ a b : Int, Btw (BIG * a) (BIG * b) (BIG * a + (b - a)) ∧ Btw (BIG * a) (BIG * b) (BIG * b + (a - b)) := by
    intro a b; unfold Btw BIG; omega
  refine ⟨⟨⟨e1, (b _ _).1, (b _ _).1⟩, ?_, ?_⟩, ⟨⟨e2, (b _ _).2, (b _ _).2⟩, ?_, ?_⟩⟩
  all_goals unfold BIG; omega
theorem on_scale {M a0 a1 b0 b1 s0 s1 : Int} (hM : 0 < M) : OnI (M * a0) (M * a1) (M * b0) (M * b1) (M * s0) (M * s1) ↔ OnI a0 a1 b0 b1 s0 s1 := by
  have s := scale_sg (A := crossI a0 a1 b0 b1 s0 s1) hM
  unfold OnI Btw
  simp only [cross_scale, sc_le hM]
  refine ⟨fun h => ⟨?_, h.2⟩, fun h => ⟨by rw [h.1, Int.mul_zero], h.2⟩⟩
  have := h.1
  omega
theorem mid_scale {M a0 a1 b0 b1 s0 s1 : Int} (hM : 0 < M) : Mid (M * a0) (M * a1) (M * b0) (M * b1) (M * s0) (M * s1) ↔ Mid a0 a1 b0 b1 s0 s1 := by
  unfold Mid
  rw [on_scale hM]
  simp only [sc_eq hM]
theorem left_const {n : Nat} {X Y : Nat → Int} (h : Simp n X Y) : ∃ L, ∀ H : Int, 0 < H → ∀ i s0 s1, Mid (H * (BIG * X i)) (H * (BIG * Y i)) (H * (BIG * X (i + 1))) (H * (BIG * Y (i + 1))) s0 s1 →
    W0 n (fun k => H * (BIG * X k)) (fun k => H * (BIG * Y k)) s0 s1 + upw (X i) (Y i) (X (i + 1)) (Y (i + 1)) = L := by
  have hB : 0 < BIG := by unfold BIG; omega
  have hb := h.poly.scale hB
  have st : ∀ i, W0 n (fun k => BIG * X k) (fun k => BIG * Y k) (BIG * X i + (X (i + 1) - X i)) (BIG * Y i + (Y (i + 1) - Y i)) + upw (X i) (Y i) (X (i + 1)) (Y (i + 1)) =
      W0 n (fun k => BIG * X k) (fun k => BIG * Y k) (BIG * X (i + 1) + (X (i + 1 + 1) - X (i + 1))) (BIG * Y (i + 1) + (Y (i + 1 + 1) - Y (i + 1))) + upw (X (i + 1)) (Y (i + 1)) (X (i + 1 + 1)) (Y (i + 1 + 1)) := by
    intro i
    have m := mid_near (h.ne i)
    have a := hb.along i m.1 m.2
    have p := past_corner (h.shift i)
    rw [WN_shift h, WN_shift h, WN_W0, WN_W0] at p
    simp only [Nat.zero_add] at p
    rw [show 1 + i = i + 1 by omega, show 2 + i = i + 1 + 1 by omega] at p
    rw [a]
    exact p
  have all : ∀ i, W0 n (fun k => BIG * X k) (fun k => BIG * Y k) (BIG * X i + (X (i + 1) - X i)) (BIG * Y i + (Y (i + 1) - Y i)) + upw (X i) (Y i) (X (i + 1)) (Y (i + 1)) =
      W0 n (fun k => BIG * X k) (fun k => BIG * Y k) (BIG * X 0 + (X (0 + 1) - X 0)) (BIG * Y 0 + (Y (0 + 1) - Y 0)) + upw (X 0) (Y 0) (X (0 + 1)) (Y (0 + 1)) := by
    intro i
    induction i with
    | zero => rfl
    | succ i ih => rw [← st i, ih]
  refine ⟨W0 n (fun k => BIG * X k) (fun k => BIG * Y k) (BIG * X 0 + (X (0 + 1) - X 0)) (BIG * Y 0 + (Y (0 + 1) - Y 0)) + upw (X 0) (Y 0) (X (0 + 1)) (Y (0 + 1)), fun H hH i s0 s1 hs => ?_⟩
  rw [← all i]
  have m := (mid_scale hH).2 (mid_near (h.ne i)).1
  rw [(hb.scale hH).along i hs m, W0_scale hH]
def hts (Y : Nat → Int) : Nat → Int
  | 0 => 1
  | k + 1 => hts Y k * (if Y (k + 1) = Y k then 1 else (Y (k + 1) - Y k) * (Y (k + 1) - Y k))
theorem hts_pos (Y : Nat → Int) : ∀ n, 0 < hts Y n
  | 0 => by rw [hts]; omega
  | n + 1 => by
    rw [hts]
    refine Int.mul_pos (hts_pos Y n) ?_
    split
    · omega
    · by_cases c : 0 < Y (n + 1) - Y n
      · exact Int.mul_pos c c
      · rw [← Int.neg_mul_neg]; exact Int.mul_pos (by omega) (by omega)
theorem hts_dvd (Y : Nat → Int) : ∀ n k, k < n → Y (k + 1) ≠ Y k → ∃ z, hts Y n = (Y (k + 1) - Y k) * z
  | 0, k, h, _ => by omega
  | n + 1, k, h, hne => by
    by_cases c : k = n
    · subst c
      refine ⟨hts Y k * (Y (k + 1) - Y k), ?_⟩
      rw [hts, if_neg hne, Int.mul_left_comm]
    · obtain ⟨z, hz⟩ := hts_dvd Y n k (by omega) hne
      refine ⟨z * (if Y (n + 1) = Y n then 1 else (Y (n + 1) - Y n) * (Y (n + 1) - Y n)), ?_⟩
      rw [hts, hz, Int.mul_assoc]
theorem sm_bound (c : Nat → Int) : ∀ n, ∃ B, ∀ k, k < n → c k ≤ B
  | 0 => ⟨0, fun k h => by omega⟩
  | n + 1 => by
    obtain ⟨B, hB⟩ := sm_bound c n
    by_cases g : c n ≤ B
    · refine ⟨B, fun k h => ?_⟩
      by_cases e : k = n
      · subst e; exact g
      · exact hB k (by omega)
    · refine ⟨c n, fun k h => ?_⟩
      by_cases e : k = n
      · subst e; exact Int.le_refl _
      · have := hB k (by omega); omega
theorem sm_zero (h : Nat → Int) : ∀ n, (∀ k, k < n → h k = 0) → sm h n = 0
  | 0, _ => rfl
  | n + 1, hz => by rw [sm, sm_zero h n fun k hk => hz k (by omega), hz n (by omega)]; omega
theorem sm_at (h : Nat → Int) : ∀ n i, i < n → (∀ k, k < n → k ≠ i → h k = 0) → sm h n = h i
  | 0, i, hi, _ => by omega
  | n + 1, i, hi, hz => by
    rw [sm]
    by_cases c : i = n
    · subst c
      rw [sm_zero h i fun k hk => hz k (by omega) (by omega)]
      omega
    · rw [sm_at h n i (by omega) fun k hk hne => hz k (by omega) hne, hz n (by omega) (by omega)]
      omega
theorem wst_flat {p0 p1 a0 a1 b0 b1 : Int} (h : (p1 < a1 ∧ p1 < b1) ∨ (a1 < p1 ∧ b1 < p1)) : wst p0 p1 a0 a1 b0 b1 = 0 := by
  unfold wst
  rw [if_neg (fun g => by omega), if_neg (fun g => by omega)]
theorem wst_cross {a0 a1 b0 b1 q c : Int} (x : Int) (hf : crossI a0 a1 b0 b1 x q = (b1 - a1) * (c - x)) :
    (a1 < q → q < b1 → wst x q a0 a1 b0 b1 = if x < c then 1 else 0) ∧ (b1 < q → q < a1 → wst x q a0 a1 b0 b1 = if x < c then -1 else 0) := by
  unfold wst
  rw [hf]
  refine ⟨fun h1 h2 => ?_, fun h1 h2 => ?_⟩
  · have k := sign_mul (u := c - x) (v := b1 - a1) (by omega)
    rw [Int.mul_comm] at k
    rw [if_neg (c := b1 ≤ q ∧ a1 > q ∧ (b1 - a1) * (c - x) < 0) (fun g => by omega)]
    by_cases g : x < c
    · rw [if_pos g, if_pos ⟨by omega, by omega, k.1.2 (by omega)⟩]
    · rw [if_neg g, if_neg (fun e => g (by have := k.1.1 e.2.2; omega))]
  · have k := sign_mul (u := c - x) (v := a1 - b1) (by omega)
    rw [Int.mul_comm] at k
    have e : (b1 - a1) * (c - x) = -((a1 - b1) * (c - x)) := by rw [← Int.neg_mul]; congr 1; omega
    rw [e]
    rw [if_neg (c := a1 ≤ q ∧ b1 > q ∧ -((a1 - b1) * (c - x)) > 0) (fun g => by omega)]
    by_cases g : x < c
    · rw [if_pos g, if_pos ⟨by omega, by omega, by have := k.1.2 (by omega); omega⟩]
    · rw [if_neg g, if_neg (fun e => g (by have := k.1.1 (by omega); omega))]
theorem on_height {a0 a1 b0 b1 s0 s1 : Int} (hz : crossI a0 a1 b0 b1 s0 s1 = 0) (hy : Btw a1 b1 s1) (hne : a1 ≠ b1) : OnI a0 a1 b0 b1 s0 s1 := by
  refine ⟨hz, ?_, hy⟩
  have up : ∀ a0 a1 b0 b1 s0 s1 : Int, crossI a0 a1 b0 b1 s0 s1 = 0 → a1 ≤ s1 → s1 ≤ b1 → a1 < b1 → Btw a0 b0 s0 := by
    intro a0 a1 b0 b1 s0 s1 hz h1 h2 h3
    unfold crossI at hz
    have e1 : (s0 - a0) * (b1 - a1) = (b0 - a0) * (s1 - a1) := by rw [Int.mul_comm (s0 - a0)]; omega
    have e2 : (b0 - s0) * (b1 - a1) = (b0 - a0) * (b1 - s1) := by
      have k1 := Int.sub_mul (b0 - a0) (s0 - a0) (b1 - a1)
      have k2 := Int.mul_sub (b0 - a0) (b1 - a1) (s1 - a1)
      rw [show b0 - a0 - (s0 - a0) = b0 - s0 by omega] at k1
      rw [show b1 - a1 - (s1 - a1) = b1 - s1 by omega] at k2
      omega
    have m1 := mul_sg (u := s0 - a0) (show 0 < b1 - a1 by omega)
    have m2 := mul_sg (u := b0 - s0) (show 0 < b1 - a1 by omega)
    have m3 := mul_sg0 (u := b0 - a0) (show 0 ≤ s1 - a1 by omega)
    have m4 := mul_sg0 (u := b0 - a0) (show 0 ≤ b1 - s1 by omega)
    rw [e1] at m1
    rw [e2] at m2
    clear e1 e2 hz h1 h2 h3
    generalize (b0 - a0) * (s1 - a1) = t1 at *
    generalize (b0 - a0) * (b1 - s1) = t2 at *
    unfold Btw
    by_cases c : a0 ≤ b0
    · refine .inl ⟨?_, ?_⟩
      · by_cases g : a0 ≤ s0
        · exact g
        · have := m1.2.1 (by omega); have := m3.1 (by omega); omega
      · by_cases g : s0 ≤ b0
        · exact g
        · have := m2.2.1 (by omega); have := m4.1 (by omega); omega
    · refine .inr ⟨?_, ?_⟩
      · by_cases g : b0 ≤ s0
        · exact g
        · have := m2.1 (by omega); have := m4.2 (by omega); omega
      · by_cases g : s0 ≤ a0
        · exact g
        · have := m1.1 (by omega); have := m3.2 (by omega); omega
  have hy' := hy
  unfold Btw at hy
  rcases hy with g | g
  · exact up _ _ _ _ _ _ hz g.1 g.2 (by omega)
  · have := up _ _ _ _ _ _ (show crossI b0 b1 a0 a1 s0 s1 = 0 by rw [cross_back]; omega) g.1 g.2 (by omega)
    unfold Btw at *
    omega
end Go.Proofs.Ytjalkjeldlchoaa.X
end
section
set_option linter.unusedSectionVars false
set_option linter.unusedSimpArgs false
set_option linter.unusedVariables false
namespace Go.Proofs.Ytjalkjeldlchoaa.X
open Go Go.RowKit
set_option linter.unusedVariables false
set_option linter.unusedSimpArgs false
def crs (X Y : Nat → Int) (H h : Int) (k : Nat) : Int := H * (BIG * X k) + (X (k + 1) - X k) * (H / (Y (k + 1) - Y k)) * (h - BIG * Y k)
theorem crs_cross {X Y : Nat → Int} {n k : Nat} (hk : k < n) (hne : Y (k + 1) ≠ Y k) (h x : Int) :
    crossI (hts Y n * (BIG * X k)) (hts Y n * (BIG * Y k)) (hts Y n * (BIG * X (k + 1))) (hts Y n * (BIG * Y (k + 1))) x (hts Y n * h) =
      (hts Y n * (BIG * Y (k + 1)) - hts Y n * (BIG * Y k)) * (crs X Y (hts Y n) h k - x) := by
  obtain ⟨z, hz⟩ := hts_dvd Y n k hk hne
  unfold crs
  generalize hts Y n = H at *
  have hd : H / (Y (k + 1) - Y k) = z := by rw [hz]; exact Int.mul_ediv_cancel_left z (by omega)
  rw [hd]
  unfold crossI
  have e : H * (BIG * X (k + 1)) - H * (BIG * X k) = (Y (k + 1) - Y k) * (z * (BIG * (X (k + 1) - X k))) := by
    rw [← Int.mul_sub, ← Int.mul_sub, hz, Int.mul_assoc]
  have e2 : H * (BIG * Y (k + 1)) - H * (BIG * Y k) = H * (BIG * (Y (k + 1) - Y k)) := by rw [← Int.mul_sub, ← Int.mul_sub]
  have e3 : H * h - H * (BIG * Y k) = H * (h - BIG * Y k) := by rw [← Int.mul_sub]
  rw [e, e2, e3]
  have e4 : H * (BIG * X k) + (X (k + 1) - X k) * z * (h - BIG * Y k) - x = (X (k + 1) - X k) * z * (h - BIG * Y k) - (x - H * (BIG * X k)) := by omega
  rw [e4]
  clear e e2 e3 e4 hd hz
  generalize x - H * (BIG * X k) = R
  generalize h - BIG * Y k = G
  generalize Y (k + 1) - Y k = D
  generalize X (k + 1) - X k = E
  rw [Int.mul_sub]
  congr 1
  simp only [Int.mul_assoc, Int.mul_comm, Int.mul_left_comm]
theorem no_corner {H h : Int} (hH : 0 < H) (hh : ∀ y, BIG * y ≠ h) (y : Int) : H * (BIG * y) < H * h ∨ H * h < H * (BIG * y) := by
  have := hh y
  rw [sc_lt hH, sc_lt hH]
  omega
theorem ite_step (x c v : Int) : (if x < c then v else 0) - (if x + 1 < c then v else 0) = if x = c - 1 then v else 0 := by
  repeat' split
  all_goals omega
theorem one_side {a0 a1 b0 b1 q c : Int} (hc : b1 ≠ a1 → ∀ x, crossI a0 a1 b0 b1 x q = (b1 - a1) * (c - x)) (x : Int) :
    ((a1 < q ∧ b1 < q) ∨ (q < a1 ∧ q < b1) → wst x q a0 a1 b0 b1 = 0 ∧ wst x q a0 a1 b0 b1 - wst (x + 1) q a0 a1 b0 b1 = 0) ∧
    (a1 < q ∧ q < b1 → (c ≤ x → wst x q a0 a1 b0 b1 = 0) ∧ (x ≠ c - 1 → wst x q a0 a1 b0 b1 - wst (x + 1) q a0 a1 b0 b1 = 0) ∧ (x = c - 1 → Mid a0 a1 b0 b1 (x + 1) q ∧ wst x q a0 a1 b0 b1 - wst (x + 1) q a0 a1 b0 b1 = 1)) ∧
    (b1 < q ∧ q < a1 → (c ≤ x → wst x q a0 a1 b0 b1 = 0) ∧ (x ≠ c - 1 → wst x q a0 a1 b0 b1 - wst (x + 1) q a0 a1 b0 b1 = 0) ∧ (x = c - 1 → Mid a0 a1 b0 b1 (x + 1) q ∧ wst x q a0 a1 b0 b1 - wst (x + 1) q a0 a1 b0 b1 = -1)) := by
  have mid : Btw a1 b1 q → b1 ≠ a1 → a1 ≠ q → b1 ≠ q → x = c - 1 → Mid a0 a1 b0 b1 (x + 1) q := by
    intro g hne n1 n2 e
    have z := hc hne (x + 1)
    rw [show c - (x + 1) = 0 by omega, Int.mul_zero] at z
    exact ⟨on_height z g (fun h => hne h.symm), fun h => n1 h.2.symm, fun h => n2 h.2.symm⟩
  refine ⟨fun g => ?_, fun g => ?_, fun g => ?_⟩
  · have f : ∀ x, wst x q a0 a1 b0 b1 = 0 := fun x => wst_flat (by omega)
    rw [f, f]
    exact ⟨rfl, rfl⟩
  · have hne : b1 ≠ a1 := by omega
    have w1 := (wst_cross x (hc hne x)).1 g.1 g.2
    have w2 := (wst_cross (x + 1) (hc hne (x + 1))).1 g.1 g.2
    have st := ite_step x c 1
    rw [← w1, ← w2] at st
    refine ⟨fun l => ?_, fun l => ?_, fun l => ⟨mid (.inl ⟨Int.le_of_lt g.1, Int.le_of_lt g.2⟩) hne (Int.ne_of_lt g.1) (fun h => by omega) l, ?_⟩⟩
    · rw [w1, if_neg (by omega)]
    · rw [st, if_neg l]
    · rw [st, if_pos l]
  · have hne : b1 ≠ a1 := by omega
    have w1 := (wst_cross x (hc hne x)).2 g.1 g.2
    have w2 := (wst_cross (x + 1) (hc hne (x + 1))).2 g.1 g.2
    have st := ite_step x c (-1)
    rw [← w1, ← w2] at st
    refine ⟨fun l => ?_, fun l => ?_, fun l => ⟨mid (.inr ⟨Int.le_of_lt g.1, Int.le_of_lt g.2⟩) hne (fun h => by omega) (Int.ne_of_lt g.1) l, ?_⟩⟩
    · rw [w1, if_neg (by omega)]
    · rw [st, if_neg l]
    · rw [st, if_pos l]
theorem upw_up {a0 a1 b0 b1 : Int} (h : a1 < b1) : upw a0 a1 b0 b1 = 1 := by unfold upw; rw [if_pos (.inl h)]
theorem upw_dn {a0 a1 b0 b1 : Int} (h : b1 < a1) : upw a0 a1 b0 b1 = 0 := by unfold upw; rw [if_neg (by omega)]
theorem sweep {n : Nat} {X Y : Nat → Int} (hp : Simp n X Y) {L : Int}
    (hL : ∀ H : Int, 0 < H → ∀ i s0 s1, Mid (H * (BIG * X i)) (H * (BIG * Y i)) (H * (BIG * X (i + 1))) (H * (BIG * Y (i + 1))) s0 s1 →
      W0 n (fun k => H * (BIG * X k)) (fun k => H * (BIG * Y k)) s0 s1 + upw (X i) (Y i) (X (i + 1)) (Y (i + 1)) = L)
    {h : Int} (hh : ∀ y, BIG * y ≠ h) :
    (∀ x, W0 n (fun k => hts Y n * (BIG * X k)) (fun k => hts Y n * (BIG * Y k)) x (hts Y n * h) = 0 ∨
      ((L = 0 ∨ L = 1) ∧ W0 n (fun k => hts Y n * (BIG * X k)) (fun k => hts Y n * (BIG * Y k)) x (hts Y n * h) = 2 * L - 1)) ∧
    (∀ i x, i < n → x = crs X Y (hts Y n) h i - 1 → ((hts Y n * (BIG * Y i) < hts Y n * h ∧ hts Y n * h < hts Y n * (BIG * Y (i + 1))) ∨ (hts Y n * (BIG * Y (i + 1)) < hts Y n * h ∧ hts Y n * h < hts Y n * (BIG * Y i))) →
      W0 n (fun k => hts Y n * (BIG * X k)) (fun k => hts Y n * (BIG * Y k)) x (hts Y n * h) ≠ W0 n (fun k => hts Y n * (BIG * X k)) (fun k => hts Y n * (BIG * Y k)) (x + 1) (hts Y n * h)) := by
  have hH := hts_pos Y n
  have hB : 0 < BIG := by unfold BIG; omega
  have hpo := (hp.poly.scale hB).scale hH
  replace hL := hL _ hH
  have cc := fun k (hk : k < n) (hne : Y (k + 1) ≠ Y k) x => crs_cross (X := X) hk hne h x
  have nc := no_corner hH hh
  obtain ⟨B, bB⟩ := sm_bound (crs X Y (hts Y n) h) n
  have cmp : ∀ i j : Nat, (hts Y n * (BIG * Y i) < hts Y n * (BIG * Y j)) ↔ Y i < Y j := fun i j => by rw [sc_lt hH, sc_lt hB]
  generalize hA : (fun k => hts Y n * (BIG * X k)) = A at *
  generalize hC : (fun k => hts Y n * (BIG * Y k)) = C at *
  have eA : ∀ k, hts Y n * (BIG * X k) = A k := fun k => congrFun hA k
  have eC : ∀ k, hts Y n * (BIG * Y k) = C k := fun k => congrFun hC k
  simp only [eA, eC] at hL cc cmp hpo
  simp only [eC]
  have nc' : ∀ k, C k < hts Y n * h ∨ hts Y n * h < C k := fun k => by rw [← eC]; exact nc _
  clear nc hA hC eA eC hh
  generalize hts Y n * h = q at *
  generalize crs X Y (hts Y n) h = c at *
  -- one side
  have cases : ∀ k, ((C k < q ∧ C (k + 1) < q) ∨ (q < C k ∧ q < C (k + 1))) ∨ (C k < q ∧ q < C (k + 1)) ∨ (C (k + 1) < q ∧ q < C k) := fun k => by
    have a := nc' k
    have b := nc' (k + 1)
    clear cc cmp bB hL
    omega
  have sid := fun k (hk : k < n) x => one_side (a0 := A k) (a1 := C k) (b0 := A (k + 1)) (b1 := C (k + 1)) (q := q) (c := c k) (fun hne x => cc k hk (fun e => hne (by
    have m1 := cmp k (k + 1)
    have m2 := cmp (k + 1) k
    clear cc bB hL cases nc'
    omega)) x) x
  have ups : ∀ k, (C k < q ∧ q < C (k + 1) → upw (X k) (Y k) (X (k + 1)) (Y (k + 1)) = 1) ∧ (C (k + 1) < q ∧ q < C k → upw (X k) (Y k) (X (k + 1)) (Y (k + 1)) = 0) := fun k =>
    ⟨fun g => upw_up ((cmp k (k + 1)).1 (Int.lt_trans g.1 g.2)), fun g => upw_dn ((cmp (k + 1) k).1 (Int.lt_trans g.1 g.2))⟩
  have one : ∀ k, k < n → ∀ x, (x ≠ c k - 1 ∨ ((C k < q ∧ C (k + 1) < q) ∨ (q < C k ∧ q < C (k + 1))) → wst x q (A k) (C k) (A (k + 1)) (C (k + 1)) - wst (x + 1) q (A k) (C k) (A (k + 1)) (C (k + 1)) = 0) ∧
      (c k ≤ x → wst x q (A k) (C k) (A (k + 1)) (C (k + 1)) = 0) ∧
      (x = c k - 1 → ((C k < q ∧ q < C (k + 1)) ∨ (C (k + 1) < q ∧ q < C k)) →
        Mid (A k) (C k) (A (k + 1)) (C (k + 1)) (x + 1) q ∧ wst x q (A k) (C k) (A (k + 1)) (C (k + 1)) - wst (x + 1) q (A k) (C k) (A (k + 1)) (C (k + 1)) = 2 * upw (X k) (Y k) (X (k + 1)) (Y (k + 1)) - 1) := by
    intro k hk x
    have s := sid k hk x
    have u := ups k
    have cs := cases k
    clear sid ups cases cc cmp bB hL nc'
    refine ⟨fun g => ?_, fun g => ?_, fun g f => ?_⟩
    · rcases cs with f | f | f
      · exact (s.1 f).2
      · rcases g with g | g
        · exact (s.2.1 f).2.1 g
        · clear s u; omega
      · rcases g with g | g
        · exact (s.2.2 f).2.1 g
        · clear s u; omega
    · rcases cs with f | f | f
      · exact (s.1 f).1
      · exact (s.2.1 f).1 g
      · exact (s.2.2 f).1 g
    · rcases f with f | f
      · rw [u.1 f]
        exact (s.2.1 f).2.2 g
      · rw [u.2 f]
        exact (s.2.2 f).2.2 g
  have far : ∀ x, B ≤ x → W0 n A C x q = 0 := fun x hx => sm_zero _ n fun k hk => (one k hk x).2.1 (by have := bB k hk; omega)
  -- one step to the left
  have step : ∀ x, (W0 n A C x q = W0 n A C (x + 1) q ∧ ¬ ∃ i, i < n ∧ x = c i - 1 ∧ ((C i < q ∧ q < C (i + 1)) ∨ (C (i + 1) < q ∧ q < C i))) ∨ ∃ u, (u = 0 ∨ u = 1) ∧ W0 n A C (x + 1) q + u = L ∧ W0 n A C x q = W0 n A C (x + 1) q + (2 * u - 1) := by
    intro x
    have sub := sm_sub (fun k => wst x q (A k) (C k) (A (k + 1)) (C (k + 1))) (fun k => wst (x + 1) q (A k) (C k) (A (k + 1)) (C (k + 1))) n
    by_cases ex : ∃ i, i < n ∧ x = c i - 1 ∧ ((C i < q ∧ q < C (i + 1)) ∨ (C (i + 1) < q ∧ q < C i))
    · obtain ⟨i, hi, e, g⟩ := ex
      have o := (one i hi x).2.2 e g
      refine .inr ⟨upw (X i) (Y i) (X (i + 1)) (Y (i + 1)), ?_, hL i _ _ o.1, ?_⟩
      · unfold upw; split <;> omega
      · have at_ := sm_at (fun k => wst x q (A k) (C k) (A (k + 1)) (C (k + 1)) - wst (x + 1) q (A k) (C k) (A (k + 1)) (C (k + 1))) n i hi (fun k hk hne => by
          have ok := one k hk x
          by_cases g2 : x = c k - 1
          · by_cases fl : (C k < q ∧ C (k + 1) < q) ∨ (q < C k ∧ q < C (k + 1))
            · exact ok.1 (.inr fl)
            · exfalso
              have ok2 := ok.2.2 g2 ((cases k).resolve_left fl)
              have hs : Mid (A (0 + i)) (C (0 + i)) (A (1 + i)) (C (1 + i)) (x + 1) q := by rw [Nat.zero_add, Nat.add_comm 1 i]; exact o.1
              have geo := ref_geo (.inl ok2.1.1 : RefI (A k) (C k) (A (k + 1)) (C (k + 1)) (x + 1) q (x + 1) q)
              by_cases lt : i < k
              · have mm := (hpo.shift i).mid_meet hs hs (k - i) (by omega) (by omega)
                apply mm
                show GeoI (A (k - i + i)) (C (k - i + i)) (A (k - i + 1 + i)) (C (k - i + 1 + i)) (x + 1) q (x + 1) q
                rw [show k - i + i = k by omega, show k - i + 1 + i = k + 1 by omega]
                exact geo
              · have mm := (hpo.shift i).mid_meet hs hs (k + n - i) (by omega) (by omega)
                apply mm
                show GeoI (A (k + n - i + i)) (C (k + n - i + i)) (A (k + n - i + 1 + i)) (C (k + n - i + 1 + i)) (x + 1) q (x + 1) q
                have pa := hpo.perX k
                have pb := hpo.perX (k + 1)
                have pc := hpo.perY k
                have pd := hpo.perY (k + 1)
                rw [show k + n - i + i = k + n by omega, show k + n - i + 1 + i = k + 1 + n by omega, pa, pb, pc, pd]
                exact geo
          · exact ok.1 (.inl g2))
        rw [sub] at at_
        have := o.2
        unfold W0
        omega
    · refine .inl ⟨?_, ex⟩
      have z := sm_zero (fun k => wst x q (A k) (C k) (A (k + 1)) (C (k + 1)) - wst (x + 1) q (A k) (C k) (A (k + 1)) (C (k + 1))) n (fun k hk => by
        have ok := one k hk x
        by_cases g2 : x = c k - 1
        · by_cases fl : (C k < q ∧ C (k + 1) < q) ∨ (q < C k ∧ q < C (k + 1))
          · exact ok.1 (.inr fl)
          · exact absurd ⟨k, hk, g2, (cases k).resolve_left fl⟩ ex
        · exact ok.1 (.inl g2))
      rw [sub] at z
      unfold W0
      omega
  clear one sid ups cases cc cmp hL hpo bB nc' hp hH hB
  have down : ∀ m : Nat, W0 n A C (B - m) q = 0 ∨ ((L = 0 ∨ L = 1) ∧ W0 n A C (B - m) q = 2 * L - 1) := by
    intro m
    induction m with
    | zero => exact .inl (far _ (by omega))
    | succ m ih =>
      have s := step (B - (m + 1 : Nat))
      rw [show B - (m + 1 : Nat) + 1 = B - m by omega] at s
      rcases s with ⟨s, _⟩ | ⟨u, hu, s1, s2⟩
      · rw [s]; exact ih
      · rw [s2]
        generalize W0 n A C (B - m) q = w at *
        omega
  refine ⟨fun x => ?_, fun i x hi e g => ?_⟩
  · by_cases hx : B ≤ x
    · exact .inl (far x hx)
    · have := down (B - x).toNat
      rwa [show B - ((B - x).toNat : Int) = x by omega] at this
  · rcases step x with ⟨_, s⟩ | ⟨u, hu, _, s2⟩
    · exact absurd ⟨i, hi, e, g⟩ s
    · generalize W0 n A C (x + 1) q = w at *
      omega
theorem wind_one {n : Nat} {X Y : Nat → Int} (h : Simp n X Y) : ∃ L, ∀ p0 p1, InC p0 ∧ InC p1 → (∀ k, k < n → ¬ OnI (X k) (Y k) (X (k + 1)) (Y (k + 1)) p0 p1) →
    W0 n X Y p0 p1 = 0 ∨ ((L = 0 ∨ L = 1) ∧ W0 n X Y p0 p1 = 2 * L - 1) := by
  obtain ⟨L, hL⟩ := left_const h
  refine ⟨L, fun p0 p1 hp hn => ?_⟩
  have hB : 0 < BIG := by unfold BIG; omega
  have s := (sweep h hL (h := BIG * p1 + 1) (fun y e => by unfold BIG at e; omega)).1 (hts Y n * (BIG * p0 + 0))
  have sc := W0_scale (n := n) (X := fun k => BIG * X k) (Y := fun k => BIG * Y k) (hts_pos Y n) (BIG * p0 + 0) (BIG * p1 + 1)
  rw [sc] at s
  have near : W0 n (fun k => BIG * X k) (fun k => BIG * Y k) (BIG * p0 + 0) (BIG * p1 + 0) = W0 n (fun k => BIG * X k) (fun k => BIG * Y k) (BIG * p0 + 0) (BIG * p1 + 1) := by
    have z := sm_zero (fun k => (wst (BIG * p0 + 0) (BIG * p1 + 0) (BIG * X k) (BIG * Y k) (BIG * X (k + 1)) (BIG * Y (k + 1)) - wst (BIG * p0 + 0) (BIG * p1 + 1) (BIG * X k) (BIG * Y k) (BIG * X (k + 1)) (BIG * Y (k + 1))) -
        ((fun i => pot (BIG * p0 + 0) (BIG * p1 + 0) (BIG * p0 + 0) (BIG * p1 + 1) (BIG * X i) (BIG * Y i)) (k + 1) - (fun i => pot (BIG * p0 + 0) (BIG * p1 + 0) (BIG * p0 + 0) (BIG * p1 + 1) (BIG * X i) (BIG * Y i)) k)) n (fun k hk => by
      have f := far_near (d0 := 0) (d1 := 0) (e0 := 0) (e1 := 1) (h.inb k) (h.inb (k + 1)) hp (by omega) (by omega) (hn k hk)
      have := edge_same (by omega) f
      show (wst (BIG * p0 + 0) (BIG * p1 + 0) (BIG * X k) (BIG * Y k) (BIG * X (k + 1)) (BIG * Y (k + 1)) - wst (BIG * p0 + 0) (BIG * p1 + 1) (BIG * X k) (BIG * Y k) (BIG * X (k + 1)) (BIG * Y (k + 1))) -
        (pot (BIG * p0 + 0) (BIG * p1 + 0) (BIG * p0 + 0) (BIG * p1 + 1) (BIG * X (k + 1)) (BIG * Y (k + 1)) - pot (BIG * p0 + 0) (BIG * p1 + 0) (BIG * p0 + 0) (BIG * p1 + 1) (BIG * X k) (BIG * Y k)) = 0
      omega)
    rw [sm_sub, sm_sub, sm_tele (fun i => pot (BIG * p0 + 0) (BIG * p1 + 0) (BIG * p0 + 0) (BIG * p1 + 1) (BIG * X i) (BIG * Y i))] at z
    have ep : X n = X 0 ∧ Y n = Y 0 := by
      have a := h.perX 0
      have b := h.perY 0
      rw [Nat.zero_add] at a b
      exact ⟨a, b⟩
    simp only [ep.1, ep.2] at z
    rw [Int.sub_self, Int.sub_zero] at z
    exact Int.eq_of_sub_eq_zero z
  rw [← near, Int.add_zero, Int.add_zero, W0_scale hB] at s
  exact s
end Go.Proofs.Ytjalkjeldlchoaa.X
end
section
set_option linter.unusedSectionVars false
set_option linter.unusedSimpArgs false
set_option linter.unusedVariables false
namespace Go.Proofs.Ytjalkjeldlchoaa.X
open Go Go.RowKit
set_option linter.unusedVariables false
set_option linter.unusedSimpArgs false
def wsum (l : List S23) (p q : Int) : Nat → Int
  | 0 => 0
  | k + 1 => wsum l p q k + wst p q (pt l k).f0 (pt l k).f1 (nx l (k + 1)).f0 (nx l (k + 1)).f1
theorem wst_small (p0 p1 a0 a1 b0 b1 : Int) : -1 ≤ wst p0 p1 a0 a1 b0 b1 ∧ wst p0 p1 a0 a1 b0 b1 ≤ 1 := by
  unfold wst
  repeat' split
  all_goals omega
theorem wind_step {a b : S23} {p q r : Int} (ha : InB a.f0 ∧ InB a.f1) (hb : InB b.f0 ∧ InB b.f1) (hp : InB p ∧ InB q) (hr : -1000 ≤ r ∧ r ≤ 1000) : wind p q r (a, b) = r + wst p q a.f0 a.f1 b.f0 b.f1 := by
  unfold wind turnP wst
  simp only [turnV_eq, crossW_in ha.1 ha.2 hb.1 hb.2 hp.1 hp.2]
  have s := sgnI_cases (crossI a.f0 a.f1 b.f0 b.f1 p q)
  generalize crossI a.f0 a.f1 b.f0 b.f1 p q = A at *
  rw [w64 (n := r + 1) (by omega) (by omega), w64 (n := r - 1) (by omega) (by omega)]
  repeat' split
  all_goals omega
theorem winds_sum {l : List S23} {p q : Int} (h0 : 0 < l.length) (hn : l.length ≤ 64) (hin : l.any outP = false) (hp : InB p ∧ InB q) :
    ∀ k, k ≤ l.length → winds p q (upt l k) = wsum l p q k ∧ -(k : Int) ≤ wsum l p q k ∧ wsum l p q k ≤ (k : Int) := by
  intro k
  induction k with
  | zero => exact fun _ => ⟨rfl, by rw [wsum]; omega, by rw [wsum]; omega⟩
  | succ k ih =>
    intro hk
    obtain ⟨e, l1, l2⟩ := ih (by omega)
    obtain ⟨j, hj, ej⟩ := nx_pt (l := l) (i := k + 1) h0
    have ha := pt_in hin (i := k) (by omega)
    have hb := pt_in hin hj
    rw [← ej] at hb
    have sm := wst_small p q (pt l k).f0 (pt l k).f1 (nx l (k + 1)).f0 (nx l (k + 1)).f1
    rw [upt_succ, winds_snoc, e]
    have st := wind_step (r := wsum l p q k) ha hb hp (by omega)
    refine ⟨st, ?_, ?_⟩
    · rw [wsum]; omega
    · rw [wsum]; omega
theorem nx_last {l : List S23} (h : 0 < l.length) : nx l l.length = pt l 0 := by rw [nx, Nat.mod_self]; rfl
theorem nx_small {l : List S23} {i : Nat} (h : i < l.length) : nx l i = pt l i := by rw [nx, Nat.mod_eq_of_lt h]; rfl
theorem wsum_same {l : List S23} {p0 p1 q0 q1 : Int} (h0 : 0 < l.length) (hpq : p1 ≤ q1) (hn : ∀ i, i < l.length → ¬ GeoI (pt l i).f0 (pt l i).f1 (nx l (i + 1)).f0 (nx l (i + 1)).f1 p0 p1 q0 q1) :
    wsum l p0 p1 l.length = wsum l q0 q1 l.length := by
  have key : ∀ k, k < l.length → wsum l p0 p1 k - wsum l q0 q1 k = pot p0 p1 q0 q1 (pt l k).f0 (pt l k).f1 - pot p0 p1 q0 q1 (pt l 0).f0 (pt l 0).f1 := by
    intro k
    induction k with
    | zero => intro _; rw [wsum, wsum]; omega
    | succ k ih =>
      intro hk
      have h1 := ih (by omega)
      have h2 := edge_same hpq (hn k (by omega))
      rw [nx_small hk] at h2
      rw [wsum, wsum, nx_small hk]
      omega
  obtain ⟨m, hm⟩ : ∃ m, l.length = m + 1 := ⟨l.length - 1, by omega⟩
  have h1 := key m (by omega)
  have h2 := edge_same hpq (hn m (by omega))
  have e : nx l (m + 1) = pt l 0 := by rw [← hm]; exact nx_last h0
  rw [e] at h2
  rw [show wsum l p0 p1 l.length = wsum l p0 p1 (m + 1) by rw [hm], show wsum l q0 q1 l.length = wsum l q0 q1 (m + 1) by rw [hm], wsum, wsum, e]
  omega
theorem sideV_same {l : List S23} {p0 p1 q0 q1 : Int} (hl : simpleV l = 0) (hp : InB p0 ∧ InB p1) (hq : InB q0 ∧ InB q1)
    (hn : ∀ i, i < l.length → ¬ GeoI (pt l i).f0 (pt l i).f1 (nx l (i + 1)).f0 (nx l (i + 1)).f1 p0 p1 q0 q1) : sideV l p0 p1 = sideV l q0 q1 ∧ sideV l p0 p1 ≠ 0 := by
  have h := simpleV_zero hl
  clear hl
  have h0 : 0 < l.length := by omega
  have ew : wsum l p0 p1 l.length = wsum l q0 q1 l.length := by
    by_cases c : p1 ≤ q1
    · exact wsum_same h0 c hn
    · exact (wsum_same h0 (by omega) fun i hi g => hn i hi (geo_swap g)).symm
  have wp := (winds_sum h0 h.2.1 h.2.2.1 hp l.length (Nat.le_refl _)).1
  have wq := (winds_sum h0 h.2.1 h.2.2.1 hq l.length (Nat.le_refl _)).1
  have off : ∀ r0 r1 : Int, InB r0 ∧ InB r1 → (∀ i, i < l.length → ¬ OnI (pt l i).f0 (pt l i).f1 (nx l (i + 1)).f0 (nx l (i + 1)).f1 r0 r1) → ¬ (upt l l.length).any (onSide r0 r1) = true := by
    intro r0 r1 hr g hx
    obtain ⟨x, hx, ho⟩ := List.any_eq_true.1 hx
    obtain ⟨i, hi, rfl⟩ := upt_mem hx
    obtain ⟨j, hj, ej⟩ := nx_pt (l := l) (i := i + 1) h0
    have hb := pt_in h.2.2.1 hj
    rw [← ej] at hb
    exact g i hi ((onSide_iff (pt_in h.2.2.1 hi) hb hr).1 ho)
  have op := off p0 p1 hp fun i hi g => hn i hi (ref_geo (.inl g))
  have oq := off q0 q1 hq fun i hi g => hn i hi (ref_geo (.inr (.inl g)))
  rw [sideV, sideV, if_neg op, if_neg oq, wp, wq, ew]
  refine ⟨rfl, ?_⟩
  split <;> decide
end Go.Proofs.Ytjalkjeldlchoaa.X
end
section
set_option linter.unusedSectionVars false
set_option linter.unusedSimpArgs false
set_option linter.unusedVariables false
namespace Go.Proofs.Ytjalkjeldlchoaa.X
open Go Go.RowKit
set_option linter.unusedVariables false
set_option linter.unusedSimpArgs false
theorem nx_mod (l : List S23) (i d : Nat) : nx l (i + d) = nx l (i % l.length + d) := by rw [nx, nx, Nat.mod_add_mod]
theorem nx_at (l : List S23) (i : Nat) : nx l i = pt l (i % l.length) := rfl
theorem simp_of {l : List S23} (hl : simpleV l = 0) : Simp l.length (fun i => (nx l i).f0) (fun i => (nx l i).f1) := by
  have h := simpleV_zero hl
  have h0 : 0 < l.length := by omega
  have inb : ∀ i, InB (nx l i).f0 ∧ InB (nx l i).f1 := fun i => pt_in h.2.2.1 (Nat.mod_lt i h0)
  have md : ∀ i, i % l.length < l.length := fun i => Nat.mod_lt i h0
  have ne : ∀ i, ¬ ((nx l i).f0 = (nx l (i + 1)).f0 ∧ (nx l i).f1 = (nx l (i + 1)).f1) := by
    intro i ht
    rw [nx_mod l i 1] at ht
    refine List.any_eq_false.1 h.2.2.2.1 (pt l (i % l.length), nx l (i % l.length + 1)) (List.mem_map.2 ⟨i % l.length, List.mem_range.2 (md i), rfl⟩) ?_
    rw [nx_at l i] at ht
    simp [twin, ht.1, ht.2]
  have nt : ¬ tangledV l = true := by rw [h.2.2.2.2]; exact Bool.false_ne_true
  rw [tangledV_iff] at nt
  have spk : ∀ i, ¬ OnI (nx l i).f0 (nx l i).f1 (nx l (i + 1)).f0 (nx l (i + 1)).f1 (nx l (i + 2)).f0 (nx l (i + 2)).f1 ∧ ¬ OnI (nx l (i + 1)).f0 (nx l (i + 1)).f1 (nx l (i + 2)).f0 (nx l (i + 2)).f1 (nx l i).f0 (nx l i).f1 := by
    intro i
    have e : spikeAt l (i % l.length) = true ↔ _ := spikeI (p := nx l i) (c := nx l (i % l.length + 1)) (q := nx l (i % l.length + 2)) (inb _) (inb _) (inb _) (by rw [← nx_mod]; exact ne i) (by rw [← nx_mod, ← nx_mod]; exact ne (i + 1))
    rw [← nx_mod, ← nx_mod] at e
    refine ⟨fun g => nt (.inl ⟨_, md i, e.2 (.inl g)⟩), fun g => nt (.inl ⟨_, md i, e.2 (.inr g)⟩)⟩
  have pair : ∀ a b, a + 2 ≤ b → b < l.length → ¬ (a = 0 ∧ b = l.length - 1) → ¬ GeoI (nx l a).f0 (nx l a).f1 (nx l (a + 1)).f0 (nx l (a + 1)).f1 (nx l b).f0 (nx l b).f1 (nx l (b + 1)).f0 (nx l (b + 1)).f1 := by
    intro a b h1 h2 h3 g
    refine nt (.inr ⟨a, b, h1, h2, h3, ?_⟩)
    unfold pairAt
    rw [← nx_lt (l := l) (i := a) (by omega), ← nx_lt (l := l) (i := a + 1) (by omega), ← nx_lt (l := l) (i := b) h2]
    exact (meetV_iff (inb _) (inb _) (inb _) (inb _)).2 g
  refine ⟨h.1, fun i => ?_, fun i => ?_, fun i d h1 h2 => ?_, ne, fun i => (spk i).1, fun i => (spk i).2, fun i => ?_⟩
  · show (nx l (i + l.length)).f0 = (nx l i).f0
    rw [nx, nx, Nat.add_mod_right]
  · show (nx l (i + l.length)).f1 = (nx l i).f1
    rw [nx, nx, Nat.add_mod_right]
  · show ¬ GeoI (nx l i).f0 (nx l i).f1 (nx l (i + 1)).f0 (nx l (i + 1)).f1 (nx l (i + d)).f0 (nx l (i + d)).f1 (nx l (i + d + 1)).f0 (nx l (i + d + 1)).f1
    have hi := md i
    have e0 : nx l i = nx l (i % l.length) := by rw [nx, nx, Nat.mod_mod]
    rw [nx_mod l i 1, nx_mod l i d, Nat.add_assoc i d 1, nx_mod l i (d + 1), e0]
    generalize i % l.length = a at *
    by_cases c : a + d < l.length
    · exact pair a (a + d) (by omega) c (by omega)
    · have e1 : nx l (a + d) = nx l (a + d - l.length) := by rw [nx, nx, ← Nat.mod_eq_sub_mod (by omega)]
      have e2 : nx l (a + (d + 1)) = nx l (a + d - l.length + 1) := by
        rw [nx, nx, show a + d - l.length + 1 = a + (d + 1) - l.length by omega, ← Nat.mod_eq_sub_mod (by omega)]
      rw [e1, e2]
      exact fun g => pair (a + d - l.length) a (by omega) hi (by omega) (geo_turn2 g)
  · have := inb i
    unfold InB at this
    unfold InC
    show (_ ≤ (nx l i).f0 ∧ (nx l i).f0 ≤ _) ∧ (_ ≤ (nx l i).f1 ∧ (nx l i).f1 ≤ _)
    omega
theorem wsum_W0 {l : List S23} (p q : Int) : ∀ k, k ≤ l.length → wsum l p q k = W0 k (fun i => (nx l i).f0) (fun i => (nx l i).f1) p q
  | 0, _ => rfl
  | k + 1, h => by
    have ih := wsum_W0 (l := l) p q k (by omega)
    unfold W0 at ih ⊢
    rw [wsum, sm, ih, ← nx_lt (l := l) (i := k) (by omega)]
theorem wsum_one {l : List S23} (hl : simpleV l = 0) : ∃ L, ∀ p q, InB p ∧ InB q → (∀ k, k < l.length → ¬ OnI (pt l k).f0 (pt l k).f1 (nx l (k + 1)).f0 (nx l (k + 1)).f1 p q) →
    wsum l p q l.length = 0 ∨ ((L = 0 ∨ L = 1) ∧ wsum l p q l.length = 2 * L - 1) := by
  obtain ⟨L, h⟩ := wind_one (simp_of hl)
  refine ⟨L, fun p q hp hn => ?_⟩
  rw [wsum_W0 p q _ (Nat.le_refl _)]
  refine h p q ?_ fun k hk => ?_
  · unfold InB at hp; unfold InC; omega
  · have := hn k hk
    rw [← nx_lt hk] at this
    exact this
def parV (l : List S23) (p q : Int) (k : Nat) : Int := if wsum l p q k % 2 = 0 then -1 else 1
def onAt (l : List S23) (p q : Int) (i : Nat) : Bool := onS (pt l i) (nx l (i + 1)) ⟨p, q⟩
theorem par_step {l : List S23} {p q : Int} (k : Nat) :
    parV l p q (k + 1) = if (decide ((pt l k).f1 ≤ q) == decide ((nx l (k + 1)).f1 ≤ q)) = true then parV l p q k else
      if (pt l k).f1 > (nx l (k + 1)).f1 then (if crossI (nx l (k + 1)).f0 (nx l (k + 1)).f1 (pt l k).f0 (pt l k).f1 p q > 0 then wrap64 (-(parV l p q k)) else parV l p q k)
      else (if crossI (pt l k).f0 (pt l k).f1 (nx l (k + 1)).f0 (nx l (k + 1)).f1 p q > 0 then wrap64 (-(parV l p q k)) else parV l p q k) := by
  have e : wrap64 (-(parV l p q k)) = if wsum l p q k % 2 = 0 then 1 else -1 := by unfold parV wrap64; split <;> omega
  rw [e]
  unfold parV
  rw [wsum, cross_back]
  unfold wst
  generalize crossI (pt l k).f0 (pt l k).f1 (nx l (k + 1)).f0 (nx l (k + 1)).f1 p q = A
  generalize (pt l k).f1 = a
  generalize (nx l (k + 1)).f1 = b
  generalize wsum l p q k = S
  have hb : (decide (a ≤ q) == decide (b ≤ q)) = true ↔ (a ≤ q ↔ b ≤ q) := by simp
  by_cases c1 : a ≤ q
  · by_cases c2 : b ≤ q
    · rw [if_pos (c := (decide (a ≤ q) == decide (b ≤ q)) = true) (hb.2 (by omega)), if_neg (c := a ≤ q ∧ b > q ∧ A > 0) (by omega), if_neg (c := b ≤ q ∧ a > q ∧ A < 0) (by omega), Int.add_zero]
    · rw [if_neg (c := (decide (a ≤ q) == decide (b ≤ q)) = true) (fun h => by have := hb.1 h; omega), if_neg (c := b ≤ q ∧ a > q ∧ A < 0) (by omega), if_neg (c := a > b) (by omega)]
      by_cases c3 : A > 0
      · rw [if_pos (c := a ≤ q ∧ b > q ∧ A > 0) ⟨c1, by omega, c3⟩, if_pos (c := A > 0) c3]
        repeat' split
        all_goals omega
      · rw [if_neg (c := a ≤ q ∧ b > q ∧ A > 0) (fun g => c3 g.2.2), if_neg (c := A > 0) c3, Int.add_zero]
  · by_cases c2 : b ≤ q
    · rw [if_neg (c := (decide (a ≤ q) == decide (b ≤ q)) = true) (fun h => by have := hb.1 h; omega), if_neg (c := a ≤ q ∧ b > q ∧ A > 0) (by omega), if_pos (c := a > b) (by omega)]
      by_cases c3 : A < 0
      · rw [if_pos (c := b ≤ q ∧ a > q ∧ A < 0) ⟨c2, by omega, c3⟩, if_pos (c := -A > 0) (by omega)]
        repeat' split
        all_goals omega
      · rw [if_neg (c := b ≤ q ∧ a > q ∧ A < 0) (fun g => c3 g.2.2), if_neg (c := -A > 0) (by omega), Int.add_zero]
    · rw [if_pos (c := (decide (a ≤ q) == decide (b ≤ q)) = true) (hb.2 (by omega)), if_neg (c := a ≤ q ∧ b > q ∧ A > 0) (by omega), if_neg (c := b ≤ q ∧ a > q ∧ A < 0) (by omega), Int.add_zero]
theorem anyF_on {l : List S23} {p q : Int} (h0 : 0 < l.length) (hin : l.any outP = false) (hp : InB p ∧ InB q) : anyF (onAt l p q) l.length l.length = (upt l l.length).any (onSide p q) := by
  have e : ∀ i, i < l.length → (onAt l p q i = true ↔ onSide p q (pt l i, nx l (i + 1)) = true) := by
    intro i hi
    obtain ⟨j, hj, ej⟩ := nx_pt (l := l) (i := i + 1) h0
    have ha := pt_in hin hi
    have hb := pt_in hin hj
    rw [← ej] at hb
    rw [onSide_iff ha hb hp]
    exact onV_iff ha hb hp
  rw [Bool.eq_iff_iff, anyF_iff _ (Nat.le_refl _), List.any_eq_true]
  constructor
  · rintro ⟨i, _, h2, h3⟩
    exact ⟨_, mem_upt h2, (e i h2).1 h3⟩
  · rintro ⟨x, hx, h3⟩
    obtain ⟨i, hi, rfl⟩ := upt_mem hx
    exact ⟨i, by omega, hi, (e i hi).2 h3⟩
def insideV (l : List S23) (p q : Int) : Int := if anyF (onAt l p q) l.length l.length = true then 0 else parV l p q l.length
theorem inside_same {l : List S23} {p q : Int} (hl : simpleV l = 0) (hp : InB p ∧ InB q) : insideV l p q = sideV l p q := by
  have h := simpleV_zero hl
  have h0 : 0 < l.length := by omega
  unfold insideV
  rw [anyF_on h0 h.2.2.1 hp]
  have e : sideV l p q = if (upt l l.length).any (onSide p q) = true then 0 else parV l p q l.length := by
    unfold sideV
    by_cases c : (upt l l.length).any (onSide p q) = true
    · rw [if_pos c, if_pos c]
    · rw [if_neg c, if_neg c]
      obtain ⟨L, hw⟩ := wsum_one hl
      have w := hw p q hp (fun k hk g => by
        obtain ⟨j, hj, ej⟩ := nx_pt (l := l) (i := k + 1) h0
        have ha := pt_in h.2.2.1 hk
        have hb := pt_in h.2.2.1 hj
        rw [← ej] at hb
        exact c (List.any_eq_true.2 ⟨_, mem_upt hk, (onSide_iff ha hb hp).2 g⟩))
      rw [(winds_sum h0 h.2.1 h.2.2.1 hp l.length (Nat.le_refl _)).1]
      unfold parV
      generalize wsum l p q l.length = S at *
      repeat' split
      all_goals omega
  exact e.symm
end Go.Proofs.Ytjalkjeldlchoaa.X
end
section
set_option linter.unusedSectionVars false
set_option linter.unusedSimpArgs false
set_option linter.unusedVariables false
namespace Go.Proofs.Ytjalkjeldlchoaa.Ex
open Go Go.RowKit Go.Proofs.Ytjalkjeldlchoaa.X
set_option linter.unusedVariables false
theorem parV_in (l : List S23) (p q : Int) (k : Nat) : -1 ≤ parV l p q k ∧ parV l p q k ≤ 1 := by
  unfold parV
  split <;> omega
theorem inside_rounds {l : List S23} {c : Nat} {p q : Int} (h0 : 0 < l.length) (hn : l.length ≤ 64) (hin : l.any outP = false) (hp : InB p ∧ InB q) : ∀ (m i : Nat), i + m = l.length →
    (anyF (onAt l p q) l.length m = true → LoopSpec Try.prog 1 ri_l (frI l.length c (parV l p q i) i) (hpI (pc l) p q) ⟨.ret, frIR, [.ro 39 (pc l)], []⟩) ∧
    (anyF (onAt l p q) l.length m = false → LoopSpec Try.prog 1 ri_l (frI l.length c (parV l p q i) i) (hpI (pc l) p q) ⟨.exit 0, frI l.length c (parV l p q l.length) l.length, hpI (pc l) p q, []⟩)
  | 0, i, hi => by
    obtain rfl : i = l.length := by omega
    exact ⟨fun h => (by cases h), fun _ => .last (ri_round l.length c (pc l) _ l.length 0 0 0 0 p q (parV_in _ _ _ _) (by omega) hn (pc_len l) (fun h => by omega) (fun h => by omega) _ (fun h => by omega) (fun h => by omega) (fun h => by omega) (fun h => by omega) (fun h => by omega) (fun h => by omega) (fun _ => out_eq)) (by intro h; cases h)⟩
  | m + 1, i, hi => by
    have ih := inside_rounds (c := c) h0 hn hin hp m (i + 1) (by omega)
    have hi' : i < l.length := by omega
    obtain ⟨j, hj, ej⟩ := nx_pt (l := l) (i := i + 1) h0
    have ha := pt_in hin hi'
    have hb := pt_in hin hj
    rw [← ej] at hb
    have cr := crossW_in ha.1 ha.2 hb.1 hb.2 hp.1 hp.2
    have cr2 := crossW_in hb.1 hb.2 ha.1 ha.2 hp.1 hp.2
    have hv := parV_in l p q i
    have hw : wrap64 (-(parV l p q i)) = 0 - parV l p q i := by unfold wrap64; omega
    have st := par_step (l := l) (p := p) (q := q) i
    rw [hw, ← cr, ← cr2] at st
    have round := ri_round l.length c (pc l) (parV l p q i) i _ _ _ _ p q hv (by omega) hn (pc_len l) (fun _ => ptAt_of hi') (fun _ => next_done hi' hn)
    have eo : onV (pt l i).f0 (pt l i).f1 (nx l (i + 1)).f0 (nx l (i + 1)).f1 p q = onAt l p q i := rfl
    rw [eo] at round
    rw [anyF, show l.length - (m + 1) = i by omega]
    cases ho : onAt l p q i with
    | true =>
      refine ⟨fun _ => .last (round _ (fun _ _ => out_eq) (fun _ h => absurd ho h) (fun _ h => absurd ho h) (fun _ h => absurd ho h) (fun _ h => absurd ho h) (fun _ h => absurd ho h) (fun h => absurd (by omega) h)) (by intro h; cases h), fun h => by simp at h⟩
    | false =>
      rw [Bool.false_or]
      have nt : ¬ (onAt l p q i = true) := by rw [ho]; exact Bool.false_ne_true
      have key : CodeSpec Try.prog 1 ri_l (frI l.length c (parV l p q i) i) (hpI (pc l) p q) ⟨.normal, frI l.length c (parV l p q (i + 1)) ((i + 1 : Nat) : Int), hpI (pc l) p q, []⟩ := by
        have fe : ∀ {v : Int}, v = parV l p q (i + 1) → Out.le ⟨.normal, frI l.length c v ((i : Int) + 1), hpI (pc l) p q, []⟩ ⟨.normal, frI l.length c (parV l p q (i + 1)) ((i + 1 : Nat) : Int), hpI (pc l) p q, []⟩ := fun h => by rw [h]; exact out_eq
        refine round _ (fun _ h => absurd h nt) (fun _ _ g => fe ?_) (fun _ _ g k r => fe ?_) (fun _ _ g k r => fe ?_) (fun _ _ g k r => fe ?_) (fun _ _ g k r => fe ?_) (fun h => absurd (by omega) h)
        · rw [st, if_pos g]
        · rw [st, if_neg g, if_pos k, if_pos r]
        · rw [st, if_neg g, if_pos k, if_neg r]
        · rw [st, if_neg g, if_neg k, if_pos r]
        · rw [st, if_neg g, if_neg k, if_neg r]
      exact ⟨fun h => .more key rfl (ih.1 h) (fun j hj => by cases hj), fun h => .more key rfl (ih.2 h) (fun j hj => by cases hj)⟩
theorem rinside_done {l : List S23} {c : Nat} {p q : Int} (h0 : 0 < l.length) (hn : l.length ≤ 64) (hin : l.any outP = false) (hp : InB p ∧ InB q) :
    CallSpec Try.prog 50 [sl0 l.length c, pV p q] [.ro 39 (pc l)] ⟨.int .i64 (insideV l p q), [.ro 39 (pc l)], []⟩ := by
  have h := inside_rounds (c := c) h0 hn hin hp l.length 0 (by omega)
  have e0 : parV l p q 0 = -1 := rfl
  rw [e0] at h
  unfold insideV
  by_cases ht : anyF (onAt l p q) l.length l.length = true
  · rw [if_pos ht]; exact ri_T _ _ _ _ _ (h.1 ht).code _ ⟨rfl, rfl, fun j hj => hj⟩
  · rw [if_neg ht]; exact ri_F _ _ _ _ _ _ (h.2 (bne_true ht)).code _ ⟨rfl, rfl, fun j hj => hj⟩
end Go.Proofs.Ytjalkjeldlchoaa.Ex
end
section
set_option linter.unusedSectionVars false
set_option linter.unusedSimpArgs false
set_option linter.unusedVariables false
namespace Go.Proofs.Ytjalkjeldlchoaa.Ex
open Go
set_option linter.unusedVariables false
noncomputable def rck_l : Code := loopAt Try.prog 19 0
theorem rck_l_calm : calmC rck_l = true := loopAt_calm tcalm 19 0
noncomputable def rck_lC : Code := .loop rck_l
def frK (i : Int) : Fr := frOf 56 [(1, at_ 2 0), (4, .int .i64 i)]
def frKR (v : Int) : Fr := frOf 56 [(2, .int .i64 v)]
def keepK : Xt → List Nat
  | .ret => [2]
  | _ => [1, 4]
abbrev slN : Value := .slice none 0 0
abbrev slD (b : Nat) : Value := .slice (some ⟨b, 0, none⟩) 0 0
section
variable (a : Int)
include a
theorem rmay_ok_pt : go (exec (Try.prog) (8) (48) ([.int .i64 a]) ([])) [(6, .dec true), (1, .dec true), (1, .dec true)] = some (.mk (.bool (decide (a ≤ 536870912))) [] [], true, [decide (a ≥ -536870912) = true, decide (a ≥ -536870912) = true, decide (a ≥ -536870912) = true]) := by kernel_rfl
theorem rmay_ok_pf : go (exec (Try.prog) (8) (48) ([.int .i64 a]) ([])) [(6, .dec false), (0, .dec false), (0, .dec false)] = some (.mk (.bool false) [] [], true, [decide (a ≥ -536870912) = false, decide (a ≥ -536870912) = false, decide (a ≥ -536870912) = false]) := by kernel_rfl
theorem rmay_ok (R : Res) (k_pt : (h0 : a ≥ -536870912) → Res.le (.mk (.bool (decide (a ≤ 536870912))) [] []) R) (k_pf : (h0 : ¬ (a ≥ -536870912)) → Res.le (.mk (.bool false) [] []) R) : CallSpec (Try.prog) (48) ([.int .i64 a]) ([]) R := by
  by_cases h0 : a ≥ -536870912
  · exact (CallSpec.id (go_ok (exec_ok tnamed tcalm tmixed _ _ _ _) (rmay_ok_pt a ) (aC (dT h0) (aC (dT h0) (aC (dT h0) aN))))).le (k_pt h0)
  · exact (CallSpec.id (go_ok (exec_ok tnamed tcalm tmixed _ _ _ _) (rmay_ok_pf a ) (aC (dF h0) (aC (dF h0) (aC (dF h0) aN))))).le (k_pf h0)
end
end Go.Proofs.Ytjalkjeldlchoaa.Ex
end
section
set_option linter.unusedSectionVars false
set_option linter.unusedSimpArgs false
set_option linter.unusedVariables false
namespace Go.Proofs.Ytjalkjeldlchoaa.Ex
open Go Go.RowKit Go.Proofs.Ytjalkjeldlchoaa.X
set_option linter.unusedVariables false
theorem rmay_done (a : Int) : CallSpec Try.prog 48 [.int .i64 a] [] ⟨.bool (inQ a), [], []⟩ := by
  refine rmay_ok _ _ (fun h => res_b ?_) (fun h => res_b ?_)
  · unfold inQ; rw [decide_eq_decide]; omega
  · unfold inQ; rw [eq_comm, decide_eq_false_iff_not]; omega
end Go.Proofs.Ytjalkjeldlchoaa.Ex
end
section
set_option linter.unusedSectionVars false
set_option linter.unusedSimpArgs false
set_option linter.unusedVariables false
namespace Go.Proofs.Ytjalkjeldlchoaa.Ex
open Go
set_option linter.unusedVariables false
section
variable (n c m d : Nat) (cs rs : List Value) (fl ce i x y s : Int) (hi : 0 ≤ i ∧ i ≤ (↑m : Int)) (hm : m ≤ 8) (hl : List.length rs = m * 2) (hA : i < (↑m : Int) → ptAt rs i x y) (kS : i < (↑m : Int) → X.outP (X.S23.mk x y) = false → CallSpec Try.prog 50 [slB 0 n c, (a2 x y)] [.ro 39 cs] (.mk (.int .i64 s) [.ro 39 cs] []))
include n c m d cs rs fl ce i x y s hi hm hl hA kS
theorem rck_round_ptt : go (body (Try.prog) (8) (2) (8) (keepK) (rck_l) (frK i) (hpC n c m d cs rs fl ce)) [(7, .dec true), (4, Itm.must), (1, Itm.must), (0, Itm.val ((a2 x y))), (0, .call (.mk (.bool !X.outP (X.S23.mk x y)) [] [])), (4, .dec true)] = some (Out.mk Xt.ret (frOf 56 [(2, .int .i64 5)]) [.ro 39 cs, .ro 39 rs] [], true, [decide (i < (↑m : Int)) = true, inside i m = true, decide (0 + Int.toNat i * 2 + 2 ≤ List.length rs) = true, Value.agg (List.toArray (List.take 2 (List.drop (0 + Int.toNat i * 2) rs))) = (a2 x y), CallSpec Try.prog 49 [(a2 x y)] [] (.mk (.bool !X.outP (X.S23.mk x y)) [] []), (!!X.outP (X.S23.mk x y)) = true]) := by kernel_rfl
theorem rck_round_ptft : go (body (Try.prog) (8) (2) (8) (keepK) (rck_l) (frK i) (hpC n c m d cs rs fl ce)) [(7, .dec true), (4, Itm.must), (1, Itm.must), (0, Itm.val ((a2 x y))), (0, .call (.mk (.bool !X.outP (X.S23.mk x y)) [] [])), (4, .dec false), (7, Itm.must), (1, Itm.must), (0, Itm.val ((a2 x y))), (0, .call (.mk (.int .i64 s) [.ro 39 cs] [])), (4, .dec true)] = some (Out.mk Xt.ret (frOf 56 [(2, .int .i64 101)]) [.ro 39 cs, .ro 39 rs] [], true, [decide (i < (↑m : Int)) = true, inside i m = true, decide (0 + Int.toNat i * 2 + 2 ≤ List.length rs) = true, Value.agg (List.toArray (List.take 2 (List.drop (0 + Int.toNat i * 2) rs))) = (a2 x y), CallSpec Try.prog 49 [(a2 x y)] [] (.mk (.bool !X.outP (X.S23.mk x y)) [] []), (!!X.outP (X.S23.mk x y)) = false, inside i m = true, decide (0 + Int.toNat i * 2 + 2 ≤ List.length rs) = true, Value.agg (List.toArray (List.take 2 (List.drop (0 + Int.toNat i * 2) rs))) = (a2 x y), CallSpec Try.prog 50 [(sB 0 n c), (a2 x y)] [.ro 39 cs] (.mk (.int .i64 s) [.ro 39 cs] []), (!decide (s = 1)) = true]) := by kernel_rfl
theorem rck_round_ptff : go (body (Try.prog) (8) (2) (8) (keepK) (rck_l) (frK i) (hpC n c m d cs rs fl ce)) [(7, .dec true), (4, Itm.must), (1, Itm.must), (0, Itm.val ((a2 x y))), (0, .call (.mk (.bool !X.outP (X.S23.mk x y)) [] [])), (4, .dec false), (7, Itm.must), (1, Itm.must), (0, Itm.val ((a2 x y))), (0, .call (.mk (.int .i64 s) [.ro 39 cs] [])), (4, .dec false), (1, Itm.val (.int .i64 (i + 1)))] = some (Out.mk Xt.normal (frOf 56 [(1, (pA 2)), (4, .int .i64 (i + 1))]) [.ro 39 cs, .ro 39 rs, .own 24 [(sB 0 n c), .int .i64 fl, .int .i64 ce, (sB 1 m d)]] [], true, [decide (i < (↑m : Int)) = true, inside i m = true, decide (0 + Int.toNat i * 2 + 2 ≤ List.length rs) = true, Value.agg (List.toArray (List.take 2 (List.drop (0 + Int.toNat i * 2) rs))) = (a2 x y), CallSpec Try.prog 49 [(a2 x y)] [] (.mk (.bool !X.outP (X.S23.mk x y)) [] []), (!!X.outP (X.S23.mk x y)) = false, inside i m = true, decide (0 + Int.toNat i * 2 + 2 ≤ List.length rs) = true, Value.agg (List.toArray (List.take 2 (List.drop (0 + Int.toNat i * 2) rs))) = (a2 x y), CallSpec Try.prog 50 [(sB 0 n c), (a2 x y)] [.ro 39 cs] (.mk (.int .i64 s) [.ro 39 cs] []), (!decide (s = 1)) = false, Value.int .i64 (IntKind.wrap .i64 (i + 1)) = .int .i64 (i + 1)]) := by kernel_rfl
theorem rck_round_pf : go (body (Try.prog) (8) (2) (8) (keepK) (rck_l) (frK i) (hpC n c m d cs rs fl ce)) [(7, .dec false)] = some (Out.mk (Xt.exit 0) (frOf 56 [(1, (pA 2)), (4, .int .i64 i)]) [.ro 39 cs, .ro 39 rs, .own 24 [(sB 0 n c), .int .i64 fl, .int .i64 ce, (sB 1 m d)]] [], true, [decide (i < (↑m : Int)) = false]) := by kernel_rfl
theorem rck_round (R : Out) (k_ptt : (h0 : i < (↑m : Int)) → (h1 : (!!X.outP (X.S23.mk x y)) = true) → Out.le (Out.mk Xt.ret (frOf 56 [(2, .int .i64 5)]) [.ro 39 cs, .ro 39 rs] []) R) (k_ptft : (h0 : i < (↑m : Int)) → (h1 : ¬ ((!!X.outP (X.S23.mk x y)) = true)) → (h2 : ¬s = 1) → Out.le (Out.mk Xt.ret (frOf 56 [(2, .int .i64 101)]) [.ro 39 cs, .ro 39 rs] []) R) (k_ptff : (h0 : i < (↑m : Int)) → (h1 : ¬ ((!!X.outP (X.S23.mk x y)) = true)) → (h2 : ¬ (¬s = 1)) → Out.le (Out.mk Xt.normal (frOf 56 [(1, (pA 2)), (4, .int .i64 (i + 1))]) [.ro 39 cs, .ro 39 rs, .own 24 [(sB 0 n c), .int .i64 fl, .int .i64 ce, (sB 1 m d)]] []) R) (k_pf : (h0 : ¬ (i < (↑m : Int))) → Out.le (Out.mk (Xt.exit 0) (frOf 56 [(1, (pA 2)), (4, .int .i64 i)]) [.ro 39 cs, .ro 39 rs, .own 24 [(sB 0 n c), .int .i64 fl, .int .i64 ce, (sB 1 m d)]] []) R) : CodeSpec (Try.prog) (2) (rck_l) (frK i) (hpC n c m d cs rs fl ce) R := by
  by_cases h0 : i < (↑m : Int)
  · by_cases h1 : (!!X.outP (X.S23.mk x y)) = true
    · exact (CodeSpec.id (go_ok (body_ok tnamed tcalm tmixed _ _ _ _ _ _ rck_l_calm) (rck_round_ptt n c m d cs rs fl ce i x y s hi hm hl hA kS ) (aC (dT h0) (aC (inside_of (by omega)) (aC dO (aC ((hA (by omega))) (aC ((fits_done _ _)) (aC (h1) aN)))))))).le (k_ptt h0 h1)
    · by_cases h2 : ¬s = 1
      · exact (CodeSpec.id (go_ok (body_ok tnamed tcalm tmixed _ _ _ _ _ _ rck_l_calm) (rck_round_ptft n c m d cs rs fl ce i x y s hi hm hl hA kS ) (aC (dT h0) (aC (inside_of (by omega)) (aC dO (aC ((hA (by omega))) (aC ((fits_done _ _)) (aC ((bF h1)) (aC (inside_of (by omega)) (aC dO (aC ((hA (by omega))) (aC ((kS (by omega) (by simpa using h1))) (aC ((by simpa using h2)) aN))))))))))))).le (k_ptft h0 h1 h2)
      · exact (CodeSpec.id (go_ok (body_ok tnamed tcalm tmixed _ _ _ _ _ _ rck_l_calm) (rck_round_ptff n c m d cs rs fl ce i x y s hi hm hl hA kS ) (aC (dT h0) (aC (inside_of (by omega)) (aC dO (aC ((hA (by omega))) (aC ((fits_done _ _)) (aC ((bF h1)) (aC (inside_of (by omega)) (aC dO (aC ((hA (by omega))) (aC ((kS (by omega) (by simpa using h1))) (aC ((by simpa using h2)) (aC (congrArg (Value.int _) (Go.IntWalk.i64_in _ (by omega))) aN)))))))))))))).le (k_ptff h0 h1 h2)
  · exact (CodeSpec.id (go_ok (body_ok tnamed tcalm tmixed _ _ _ _ _ _ rck_l_calm) (rck_round_pf n c m d cs rs fl ce i x y s hi hm hl hA kS ) (aC (dF h0) aN))).le (k_pf h0)
end
section
variable (n c m d : Nat) (cs rs : List Value) (fl ce e : Int) (he : e ≠ 0) (kE : CallSpec Try.prog 38 [slB 0 n c] [.ro 39 cs] (.mk (.int .i64 e) [.ro 39 cs] []))
include n c m d cs rs fl ce e he kE
theorem rck_bb_e_p : go (exec (Try.prog) (8) (19) ([fV (slB 0 n c) fl ce (slB 1 m d)]) ([.ro 39 cs, .ro 39 rs])) [(9, .call (.mk (.int .i64 e) [.ro 39 cs] [])), (7, .dec true)] = some (.mk (.int .i64 e) [.ro 39 cs, .ro 39 rs] [], true, [type_of% kE, (!decide (e = 0)) = true]) := by kernel_rfl
theorem rck_bb_e (R : Res) (k_p : Res.le (.mk (.int .i64 e) [.ro 39 cs, .ro 39 rs] []) R) : CallSpec (Try.prog) (19) ([fV (slB 0 n c) fl ce (slB 1 m d)]) ([.ro 39 cs, .ro 39 rs]) R := by
  exact (CallSpec.id (go_ok (exec_ok tnamed tcalm tmixed _ _ _ _) (rck_bb_e_p n c m d cs rs fl ce e he kE ) (aC (kE) (aC (congrArg not dN) aN)))).le (k_p )
end
section
variable (n c m d : Nat) (cs rs : List Value) (fl ce : Int) (hm : 8 < m) (kE : CallSpec Try.prog 38 [slB 0 n c] [.ro 39 cs] (.mk (.int .i64 0) [.ro 39 cs] []))
include n c m d cs rs fl ce hm kE
theorem rck_bb_m_pt : go (exec (Try.prog) (8) (19) ([fV (slB 0 n c) fl ce (slB 1 m d)]) ([.ro 39 cs, .ro 39 rs])) [(9, .call (.mk (.int .i64 0) [.ro 39 cs] [])), (12, .call (.mk (.bool (X.inQ fl)) [] [])), (4, .dec true), (0, .dec true), (0, .dec true), (0, .dec true), (0, .dec true)] = some (.mk (.int .i64 5) [.ro 39 cs, .ro 39 rs] [], true, [type_of% kE, CallSpec Try.prog 48 [.int .i64 fl] [] (.mk (.bool (X.inQ fl)) [] []), (!X.inQ fl) = true, (!X.inQ fl) = true, (!X.inQ fl) = true, (!X.inQ fl) = true, (!X.inQ fl) = true]) := by kernel_rfl
theorem rck_bb_m_pft : go (exec (Try.prog) (8) (19) ([fV (slB 0 n c) fl ce (slB 1 m d)]) ([.ro 39 cs, .ro 39 rs])) [(9, .call (.mk (.int .i64 0) [.ro 39 cs] [])), (12, .call (.mk (.bool (X.inQ fl)) [] [])), (4, .dec false), (1, .dec false), (3, .dec false), (0, .call (.mk (.bool (X.inQ ce)) [] [])), (2, .dec false), (1, .dec false), (2, .dec true)] = some (.mk (.int .i64 5) [.ro 39 cs, .ro 39 rs] [], true, [type_of% kE, CallSpec Try.prog 48 [.int .i64 fl] [] (.mk (.bool (X.inQ fl)) [] []), (!X.inQ fl) = false, (!X.inQ fl) = false, (!X.inQ fl) = false, CallSpec Try.prog 48 [.int .i64 ce] [] (.mk (.bool (X.inQ ce)) [] []), (!X.inQ fl) = false, (!X.inQ fl) = false, (!X.inQ ce) = true]) := by kernel_rfl
theorem rck_bb_m_pfft : go (exec (Try.prog) (8) (19) ([fV (slB 0 n c) fl ce (slB 1 m d)]) ([.ro 39 cs, .ro 39 rs])) [(9, .call (.mk (.int .i64 0) [.ro 39 cs] [])), (12, .call (.mk (.bool (X.inQ fl)) [] [])), (4, .dec false), (1, .dec false), (3, .dec false), (0, .call (.mk (.bool (X.inQ ce)) [] [])), (2, .dec false), (1, .dec false), (2, .dec false), (6, .dec true), (0, .dec true), (0, .dec true), (0, .dec true)] = some (.mk (.int .i64 100) [.ro 39 cs, .ro 39 rs] [], true, [type_of% kE, CallSpec Try.prog 48 [.int .i64 fl] [] (.mk (.bool (X.inQ fl)) [] []), (!X.inQ fl) = false, (!X.inQ fl) = false, (!X.inQ fl) = false, CallSpec Try.prog 48 [.int .i64 ce] [] (.mk (.bool (X.inQ ce)) [] []), (!X.inQ fl) = false, (!X.inQ fl) = false, (!X.inQ ce) = false, decide (fl > 0) = true, decide (fl > 0) = true, decide (fl > 0) = true, decide (fl > 0) = true]) := by kernel_rfl
theorem rck_bb_m_pffft : go (exec (Try.prog) (8) (19) ([fV (slB 0 n c) fl ce (slB 1 m d)]) ([.ro 39 cs, .ro 39 rs])) [(9, .call (.mk (.int .i64 0) [.ro 39 cs] [])), (12, .call (.mk (.bool (X.inQ fl)) [] [])), (4, .dec false), (1, .dec false), (3, .dec false), (0, .call (.mk (.bool (X.inQ ce)) [] [])), (2, .dec false), (1, .dec false), (2, .dec false), (6, .dec false), (1, .dec false), (3, .dec false), (1, .dec false), (2, .dec true)] = some (.mk (.int .i64 100) [.ro 39 cs, .ro 39 rs] [], true, [type_of% kE, CallSpec Try.prog 48 [.int .i64 fl] [] (.mk (.bool (X.inQ fl)) [] []), (!X.inQ fl) = false, (!X.inQ fl) = false, (!X.inQ fl) = false, CallSpec Try.prog 48 [.int .i64 ce] [] (.mk (.bool (X.inQ ce)) [] []), (!X.inQ fl) = false, (!X.inQ fl) = false, (!X.inQ ce) = false, decide (fl > 0) = false, decide (fl > 0) = false, decide (fl > 0) = false, decide (fl > 0) = false, decide (ce ≤ 0) = true]) := by kernel_rfl
theorem rck_bb_m_pffff : go (exec (Try.prog) (8) (19) ([fV (slB 0 n c) fl ce (slB 1 m d)]) ([.ro 39 cs, .ro 39 rs])) [(9, .call (.mk (.int .i64 0) [.ro 39 cs] [])), (12, .call (.mk (.bool (X.inQ fl)) [] [])), (4, .dec false), (1, .dec false), (3, .dec false), (0, .call (.mk (.bool (X.inQ ce)) [] [])), (2, .dec false), (1, .dec false), (2, .dec false), (6, .dec false), (1, .dec false), (3, .dec false), (1, .dec false), (2, .dec false), (6, .dec true)] = some (.mk (.int .i64 4) [.ro 39 cs, .ro 39 rs] [], true, [type_of% kE, CallSpec Try.prog 48 [.int .i64 fl] [] (.mk (.bool (X.inQ fl)) [] []), (!X.inQ fl) = false, (!X.inQ fl) = false, (!X.inQ fl) = false, CallSpec Try.prog 48 [.int .i64 ce] [] (.mk (.bool (X.inQ ce)) [] []), (!X.inQ fl) = false, (!X.inQ fl) = false, (!X.inQ ce) = false, decide (fl > 0) = false, decide (fl > 0) = false, decide (fl > 0) = false, decide (fl > 0) = false, decide (ce ≤ 0) = false, decide ((↑m : Int) > 8) = true]) := by kernel_rfl
theorem rck_bb_m (R : Res) (k_pt : (h0 : (!X.inQ fl) = true) → Res.le (.mk (.int .i64 5) [.ro 39 cs, .ro 39 rs] []) R) (k_pft : (h0 : ¬ ((!X.inQ fl) = true)) → (h1 : (!X.inQ ce) = true) → Res.le (.mk (.int .i64 5) [.ro 39 cs, .ro 39 rs] []) R) (k_pfft : (h0 : ¬ ((!X.inQ fl) = true)) → (h1 : ¬ ((!X.inQ ce) = true)) → (h2 : fl > 0) → Res.le (.mk (.int .i64 100) [.ro 39 cs, .ro 39 rs] []) R) (k_pffft : (h0 : ¬ ((!X.inQ fl) = true)) → (h1 : ¬ ((!X.inQ ce) = true)) → (h2 : ¬ (fl > 0)) → (h3 : ce ≤ 0) → Res.le (.mk (.int .i64 100) [.ro 39 cs, .ro 39 rs] []) R) (k_pffff : (h0 : ¬ ((!X.inQ fl) = true)) → (h1 : ¬ ((!X.inQ ce) = true)) → (h2 : ¬ (fl > 0)) → (h3 : ¬ (ce ≤ 0)) → Res.le (.mk (.int .i64 4) [.ro 39 cs, .ro 39 rs] []) R) : CallSpec (Try.prog) (19) ([fV (slB 0 n c) fl ce (slB 1 m d)]) ([.ro 39 cs, .ro 39 rs]) R := by
  by_cases h0 : (!X.inQ fl) = true
  · exact (CallSpec.id (go_ok (exec_ok tnamed tcalm tmixed _ _ _ _) (rck_bb_m_pt n c m d cs rs fl ce hm kE ) (aC (kE) (aC ((rmay_done _)) (aC (h0) (aC (h0) (aC (h0) (aC (h0) (aC (h0) aN))))))))).le (k_pt h0)
  · by_cases h1 : (!X.inQ ce) = true
    · exact (CallSpec.id (go_ok (exec_ok tnamed tcalm tmixed _ _ _ _) (rck_bb_m_pft n c m d cs rs fl ce hm kE ) (aC (kE) (aC ((rmay_done _)) (aC ((bF h0)) (aC ((bF h0)) (aC ((bF h0)) (aC ((rmay_done _)) (aC ((bF h0)) (aC ((bF h0)) (aC (h1) aN))))))))))).le (k_pft h0 h1)
    · by_cases h2 : fl > 0
      · exact (CallSpec.id (go_ok (exec_ok tnamed tcalm tmixed _ _ _ _) (rck_bb_m_pfft n c m d cs rs fl ce hm kE ) (aC (kE) (aC ((rmay_done _)) (aC ((bF h0)) (aC ((bF h0)) (aC ((bF h0)) (aC ((rmay_done _)) (aC ((bF h0)) (aC ((bF h0)) (aC ((bF h1)) (aC (dT h2) (aC (dT h2) (aC (dT h2) (aC (dT h2) aN))))))))))))))).le (k_pfft h0 h1 h2)
      · by_cases h3 : ce ≤ 0
        · exact (CallSpec.id (go_ok (exec_ok tnamed tcalm tmixed _ _ _ _) (rck_bb_m_pffft n c m d cs rs fl ce hm kE ) (aC (kE) (aC ((rmay_done _)) (aC ((bF h0)) (aC ((bF h0)) (aC ((bF h0)) (aC ((rmay_done _)) (aC ((bF h0)) (aC ((bF h0)) (aC ((bF h1)) (aC (dF h2) (aC (dF h2) (aC (dF h2) (aC (dF h2) (aC (dT h3) aN)))))))))))))))).le (k_pffft h0 h1 h2 h3)
        · exact (CallSpec.id (go_ok (exec_ok tnamed tcalm tmixed _ _ _ _) (rck_bb_m_pffff n c m d cs rs fl ce hm kE ) (aC (kE) (aC ((rmay_done _)) (aC ((bF h0)) (aC ((bF h0)) (aC ((bF h0)) (aC ((rmay_done _)) (aC ((bF h0)) (aC ((bF h0)) (aC ((bF h1)) (aC (dF h2) (aC (dF h2) (aC (dF h2) (aC (dF h2) (aC (dF h3) (aC dO aN))))))))))))))))).le (k_pffff h0 h1 h2 h3)
end
section
variable (n c m d : Nat) (cs rs : List Value) (fl ce v : Int) (hm : m ≤ 8) (kE : CallSpec Try.prog 38 [slB 0 n c] [.ro 39 cs] (.mk (.int .i64 0) [.ro 39 cs] [])) (hL : CodeSpec Try.prog 2 rck_lC (frK 0) (hpC n c m d cs rs fl ce) (Out.mk Xt.ret (frKR v) [.ro 39 cs, .ro 39 rs] []))
include n c m d cs rs fl ce v hm kE hL
theorem rck_bb_T_pt : go (exec (Try.prog) (8) (19) ([fV (slB 0 n c) fl ce (slB 1 m d)]) ([.ro 39 cs, .ro 39 rs])) [(9, .call (.mk (.int .i64 0) [.ro 39 cs] [])), (12, .call (.mk (.bool (X.inQ fl)) [] [])), (4, .dec true), (0, .dec true), (0, .dec true), (0, .dec true), (0, .dec true)] = some (.mk (.int .i64 5) [.ro 39 cs, .ro 39 rs] [], true, [type_of% kE, CallSpec Try.prog 48 [.int .i64 fl] [] (.mk (.bool (X.inQ fl)) [] []), (!X.inQ fl) = true, (!X.inQ fl) = true, (!X.inQ fl) = true, (!X.inQ fl) = true, (!X.inQ fl) = true]) := by kernel_rfl
theorem rck_bb_T_pft : go (exec (Try.prog) (8) (19) ([fV (slB 0 n c) fl ce (slB 1 m d)]) ([.ro 39 cs, .ro 39 rs])) [(9, .call (.mk (.int .i64 0) [.ro 39 cs] [])), (12, .call (.mk (.bool (X.inQ fl)) [] [])), (4, .dec false), (1, .dec false), (3, .dec false), (0, .call (.mk (.bool (X.inQ ce)) [] [])), (2, .dec false), (1, .dec false), (2, .dec true)] = some (.mk (.int .i64 5) [.ro 39 cs, .ro 39 rs] [], true, [type_of% kE, CallSpec Try.prog 48 [.int .i64 fl] [] (.mk (.bool (X.inQ fl)) [] []), (!X.inQ fl) = false, (!X.inQ fl) = false, (!X.inQ fl) = false, CallSpec Try.prog 48 [.int .i64 ce] [] (.mk (.bool (X.inQ ce)) [] []), (!X.inQ fl) = false, (!X.inQ fl) = false, (!X.inQ ce) = true]) := by kernel_rfl
theorem rck_bb_T_pfft : go (exec (Try.prog) (8) (19) ([fV (slB 0 n c) fl ce (slB 1 m d)]) ([.ro 39 cs, .ro 39 rs])) [(9, .call (.mk (.int .i64 0) [.ro 39 cs] [])), (12, .call (.mk (.bool (X.inQ fl)) [] [])), (4, .dec false), (1, .dec false), (3, .dec false), (0, .call (.mk (.bool (X.inQ ce)) [] [])), (2, .dec false), (1, .dec false), (2, .dec false), (6, .dec true), (0, .dec true), (0, .dec true), (0, .dec true)] = some (.mk (.int .i64 100) [.ro 39 cs, .ro 39 rs] [], true, [type_of% kE, CallSpec Try.prog 48 [.int .i64 fl] [] (.mk (.bool (X.inQ fl)) [] []), (!X.inQ fl) = false, (!X.inQ fl) = false, (!X.inQ fl) = false, CallSpec Try.prog 48 [.int .i64 ce] [] (.mk (.bool (X.inQ ce)) [] []), (!X.inQ fl) = false, (!X.inQ fl) = false, (!X.inQ ce) = false, decide (fl > 0) = true, decide (fl > 0) = true, decide (fl > 0) = true, decide (fl > 0) = true]) := by kernel_rfl
theorem rck_bb_T_pffft : go (exec (Try.prog) (8) (19) ([fV (slB 0 n c) fl ce (slB 1 m d)]) ([.ro 39 cs, .ro 39 rs])) [(9, .call (.mk (.int .i64 0) [.ro 39 cs] [])), (12, .call (.mk (.bool (X.inQ fl)) [] [])), (4, .dec false), (1, .dec false), (3, .dec false), (0, .call (.mk (.bool (X.inQ ce)) [] [])), (2, .dec false), (1, .dec false), (2, .dec false), (6, .dec false), (1, .dec false), (3, .dec false), (1, .dec false), (2, .dec true)] = some (.mk (.int .i64 100) [.ro 39 cs, .ro 39 rs] [], true, [type_of% kE, CallSpec Try.prog 48 [.int .i64 fl] [] (.mk (.bool (X.inQ fl)) [] []), (!X.inQ fl) = false, (!X.inQ fl) = false, (!X.inQ fl) = false, CallSpec Try.prog 48 [.int .i64 ce] [] (.mk (.bool (X.inQ ce)) [] []), (!X.inQ fl) = false, (!X.inQ fl) = false, (!X.inQ ce) = false, decide (fl > 0) = false, decide (fl > 0) = false, decide (fl > 0) = false, decide (fl > 0) = false, decide (ce ≤ 0) = true]) := by kernel_rfl
theorem rck_bb_T_pffff : go (exec (Try.prog) (8) (19) ([fV (slB 0 n c) fl ce (slB 1 m d)]) ([.ro 39 cs, .ro 39 rs])) [(9, .call (.mk (.int .i64 0) [.ro 39 cs] [])), (12, .call (.mk (.bool (X.inQ fl)) [] [])), (4, .dec false), (1, .dec false), (3, .dec false), (0, .call (.mk (.bool (X.inQ ce)) [] [])), (2, .dec false), (1, .dec false), (2, .dec false), (6, .dec false), (1, .dec false), (3, .dec false), (1, .dec false), (2, .dec false), (6, .dec false), (2, Itm.loop [1, 4] (Out.mk Xt.ret (frOf 56 [(2, .int .i64 v)]) [.ro 39 cs, .ro 39 rs] []))] = some (.mk (.int .i64 v) [.ro 39 cs, .ro 39 rs] [], true, [type_of% kE, CallSpec Try.prog 48 [.int .i64 fl] [] (.mk (.bool (X.inQ fl)) [] []), (!X.inQ fl) = false, (!X.inQ fl) = false, (!X.inQ fl) = false, CallSpec Try.prog 48 [.int .i64 ce] [] (.mk (.bool (X.inQ ce)) [] []), (!X.inQ fl) = false, (!X.inQ fl) = false, (!X.inQ ce) = false, decide (fl > 0) = false, decide (fl > 0) = false, decide (fl > 0) = false, decide (fl > 0) = false, decide (ce ≤ 0) = false, decide ((↑m : Int) > 8) = false, type_of% hL]) := by kernel_rfl
theorem rck_bb_T (R : Res) (k_pt : (h0 : (!X.inQ fl) = true) → Res.le (.mk (.int .i64 5) [.ro 39 cs, .ro 39 rs] []) R) (k_pft : (h0 : ¬ ((!X.inQ fl) = true)) → (h1 : (!X.inQ ce) = true) → Res.le (.mk (.int .i64 5) [.ro 39 cs, .ro 39 rs] []) R) (k_pfft : (h0 : ¬ ((!X.inQ fl) = true)) → (h1 : ¬ ((!X.inQ ce) = true)) → (h2 : fl > 0) → Res.le (.mk (.int .i64 100) [.ro 39 cs, .ro 39 rs] []) R) (k_pffft : (h0 : ¬ ((!X.inQ fl) = true)) → (h1 : ¬ ((!X.inQ ce) = true)) → (h2 : ¬ (fl > 0)) → (h3 : ce ≤ 0) → Res.le (.mk (.int .i64 100) [.ro 39 cs, .ro 39 rs] []) R) (k_pffff : (h0 : ¬ ((!X.inQ fl) = true)) → (h1 : ¬ ((!X.inQ ce) = true)) → (h2 : ¬ (fl > 0)) → (h3 : ¬ (ce ≤ 0)) → Res.le (.mk (.int .i64 v) [.ro 39 cs, .ro 39 rs] []) R) : CallSpec (Try.prog) (19) ([fV (slB 0 n c) fl ce (slB 1 m d)]) ([.ro 39 cs, .ro 39 rs]) R := by
  by_cases h0 : (!X.inQ fl) = true
  · exact (CallSpec.id (go_ok (exec_ok tnamed tcalm tmixed _ _ _ _) (rck_bb_T_pt n c m d cs rs fl ce v hm kE hL ) (aC (kE) (aC ((rmay_done _)) (aC (h0) (aC (h0) (aC (h0) (aC (h0) (aC (h0) aN))))))))).le (k_pt h0)
  · by_cases h1 : (!X.inQ ce) = true
    · exact (CallSpec.id (go_ok (exec_ok tnamed tcalm tmixed _ _ _ _) (rck_bb_T_pft n c m d cs rs fl ce v hm kE hL ) (aC (kE) (aC ((rmay_done _)) (aC ((bF h0)) (aC ((bF h0)) (aC ((bF h0)) (aC ((rmay_done _)) (aC ((bF h0)) (aC ((bF h0)) (aC (h1) aN))))))))))).le (k_pft h0 h1)
    · by_cases h2 : fl > 0
      · exact (CallSpec.id (go_ok (exec_ok tnamed tcalm tmixed _ _ _ _) (rck_bb_T_pfft n c m d cs rs fl ce v hm kE hL ) (aC (kE) (aC ((rmay_done _)) (aC ((bF h0)) (aC ((bF h0)) (aC ((bF h0)) (aC ((rmay_done _)) (aC ((bF h0)) (aC ((bF h0)) (aC ((bF h1)) (aC (dT h2) (aC (dT h2) (aC (dT h2) (aC (dT h2) aN))))))))))))))).le (k_pfft h0 h1 h2)
      · by_cases h3 : ce ≤ 0
        · exact (CallSpec.id (go_ok (exec_ok tnamed tcalm tmixed _ _ _ _) (rck_bb_T_pffft n c m d cs rs fl ce v hm kE hL ) (aC (kE) (aC ((rmay_done _)) (aC ((bF h0)) (aC ((bF h0)) (aC ((bF h0)) (aC ((rmay_done _)) (aC ((bF h0)) (aC ((bF h0)) (aC ((bF h1)) (aC (dF h2) (aC (dF h2) (aC (dF h2) (aC (dF h2) (aC (dT h3) aN)))))))))))))))).le (k_pffft h0 h1 h2 h3)
        · exact (CallSpec.id (go_ok (exec_ok tnamed tcalm tmixed _ _ _ _) (rck_bb_T_pffff n c m d cs rs fl ce v hm kE hL ) (aC (kE) (aC ((rmay_done _)) (aC ((bF h0)) (aC ((bF h0)) (aC ((bF h0)) (aC ((rmay_done _)) (aC ((bF h0)) (aC ((bF h0)) (aC ((bF h1)) (aC (dF h2) (aC (dF h2) (aC (dF h2) (aC (dF h2) (aC (dF h3) (aC dN (aC (hL) aN)))))))))))))))))).le (k_pffff h0 h1 h2 h3)
end
section
variable (n c m d : Nat) (cs rs : List Value) (fl ce : Int) (hm : m ≤ 8) (kE : CallSpec Try.prog 38 [slB 0 n c] [.ro 39 cs] (.mk (.int .i64 0) [.ro 39 cs] [])) (hL : CodeSpec Try.prog 2 rck_lC (frK 0) (hpC n c m d cs rs fl ce) (Out.mk (Xt.exit 0) (frK (↑m : Int)) (hpC n c m d cs rs fl ce) []))
include n c m d cs rs fl ce hm kE hL
theorem rck_bb_F_pt : go (exec (Try.prog) (8) (19) ([fV (slB 0 n c) fl ce (slB 1 m d)]) ([.ro 39 cs, .ro 39 rs])) [(9, .call (.mk (.int .i64 0) [.ro 39 cs] [])), (12, .call (.mk (.bool (X.inQ fl)) [] [])), (4, .dec true), (0, .dec true), (0, .dec true), (0, .dec true), (0, .dec true)] = some (.mk (.int .i64 5) [.ro 39 cs, .ro 39 rs] [], true, [type_of% kE, CallSpec Try.prog 48 [.int .i64 fl] [] (.mk (.bool (X.inQ fl)) [] []), (!X.inQ fl) = true, (!X.inQ fl) = true, (!X.inQ fl) = true, (!X.inQ fl) = true, (!X.inQ fl) = true]) := by kernel_rfl
theorem rck_bb_F_pft : go (exec (Try.prog) (8) (19) ([fV (slB 0 n c) fl ce (slB 1 m d)]) ([.ro 39 cs, .ro 39 rs])) [(9, .call (.mk (.int .i64 0) [.ro 39 cs] [])), (12, .call (.mk (.bool (X.inQ fl)) [] [])), (4, .dec false), (1, .dec false), (3, .dec false), (0, .call (.mk (.bool (X.inQ ce)) [] [])), (2, .dec false), (1, .dec false), (2, .dec true)] = some (.mk (.int .i64 5) [.ro 39 cs, .ro 39 rs] [], true, [type_of% kE, CallSpec Try.prog 48 [.int .i64 fl] [] (.mk (.bool (X.inQ fl)) [] []), (!X.inQ fl) = false, (!X.inQ fl) = false, (!X.inQ fl) = false, CallSpec Try.prog 48 [.int .i64 ce] [] (.mk (.bool (X.inQ ce)) [] []), (!X.inQ fl) = false, (!X.inQ fl) = false, (!X.inQ ce) = true]) := by kernel_rfl
theorem rck_bb_F_pfft : go (exec (Try.prog) (8) (19) ([fV (slB 0 n c) fl ce (slB 1 m d)]) ([.ro 39 cs, .ro 39 rs])) [(9, .call (.mk (.int .i64 0) [.ro 39 cs] [])), (12, .call (.mk (.bool (X.inQ fl)) [] [])), (4, .dec false), (1, .dec false), (3, .dec false), (0, .call (.mk (.bool (X.inQ ce)) [] [])), (2, .dec false), (1, .dec false), (2, .dec false), (6, .dec true), (0, .dec true), (0, .dec true), (0, .dec true)] = some (.mk (.int .i64 100) [.ro 39 cs, .ro 39 rs] [], true, [type_of% kE, CallSpec Try.prog 48 [.int .i64 fl] [] (.mk (.bool (X.inQ fl)) [] []), (!X.inQ fl) = false, (!X.inQ fl) = false, (!X.inQ fl) = false, CallSpec Try.prog 48 [.int .i64 ce] [] (.mk (.bool (X.inQ ce)) [] []), (!X.inQ fl) = false, (!X.inQ fl) = false, (!X.inQ ce) = false, decide (fl > 0) = true, decide (fl > 0) = true, decide (fl > 0) = true, decide (fl > 0) = true]) := by kernel_rfl
theorem rck_bb_F_pffft : go (exec (Try.prog) (8) (19) ([fV (slB 0 n c) fl ce (slB 1 m d)]) ([.ro 39 cs, .ro 39 rs])) [(9, .call (.mk (.int .i64 0) [.ro 39 cs] [])), (12, .call (.mk (.bool (X.inQ fl)) [] [])), (4, .dec false), (1, .dec false), (3, .dec false), (0, .call (.mk (.bool (X.inQ ce)) [] [])), (2, .dec false), (1, .dec false), (2, .dec false), (6, .dec false), (1, .dec false), (3, .dec false), (1, .dec false), (2, .dec true)] = some (.mk (.int .i64 100) [.ro 39 cs, .ro 39 rs] [], true, [type_of% kE, CallSpec Try.prog 48 [.int .i64 fl] [] (.mk (.bool (X.inQ fl)) [] []), (!X.inQ fl) = false, (!X.inQ fl) = false, (!X.inQ fl) = false, CallSpec Try.prog 48 [.int .i64 ce] [] (.mk (.bool (X.inQ ce)) [] []), (!X.inQ fl) = false, (!X.inQ fl) = false, (!X.inQ ce) = false, decide (fl > 0) = false, decide (fl > 0) = false, decide (fl > 0) = false, decide (fl > 0) = false, decide (ce ≤ 0) = true]) := by kernel_rfl
theorem rck_bb_F_pffff : go (exec (Try.prog) (8) (19) ([fV (slB 0 n c) fl ce (slB 1 m d)]) ([.ro 39 cs, .ro 39 rs])) [(9, .call (.mk (.int .i64 0) [.ro 39 cs] [])), (12, .call (.mk (.bool (X.inQ fl)) [] [])), (4, .dec false), (1, .dec false), (3, .dec false), (0, .call (.mk (.bool (X.inQ ce)) [] [])), (2, .dec false), (1, .dec false), (2, .dec false), (6, .dec false), (1, .dec false), (3, .dec false), (1, .dec false), (2, .dec false), (6, .dec false), (2, Itm.loop [1, 4] (Out.mk (Xt.exit 0) (frOf 56 [(1, (pA 2)), (4, .int .i64 (↑m : Int))]) [.ro 39 cs, .ro 39 rs, .own 24 [(sB 0 n c), .int .i64 fl, .int .i64 ce, (sB 1 m d)]] []))] = some (.mk (.int .i64 0) [.ro 39 cs, .ro 39 rs] [], true, [type_of% kE, CallSpec Try.prog 48 [.int .i64 fl] [] (.mk (.bool (X.inQ fl)) [] []), (!X.inQ fl) = false, (!X.inQ fl) = false, (!X.inQ fl) = false, CallSpec Try.prog 48 [.int .i64 ce] [] (.mk (.bool (X.inQ ce)) [] []), (!X.inQ fl) = false, (!X.inQ fl) = false, (!X.inQ ce) = false, decide (fl > 0) = false, decide (fl > 0) = false, decide (fl > 0) = false, decide (fl > 0) = false, decide (ce ≤ 0) = false, decide ((↑m : Int) > 8) = false, type_of% hL]) := by kernel_rfl
theorem rck_bb_F (R : Res) (k_pt : (h0 : (!X.inQ fl) = true) → Res.le (.mk (.int .i64 5) [.ro 39 cs, .ro 39 rs] []) R) (k_pft : (h0 : ¬ ((!X.inQ fl) = true)) → (h1 : (!X.inQ ce) = true) → Res.le (.mk (.int .i64 5) [.ro 39 cs, .ro 39 rs] []) R) (k_pfft : (h0 : ¬ ((!X.inQ fl) = true)) → (h1 : ¬ ((!X.inQ ce) = true)) → (h2 : fl > 0) → Res.le (.mk (.int .i64 100) [.ro 39 cs, .ro 39 rs] []) R) (k_pffft : (h0 : ¬ ((!X.inQ fl) = true)) → (h1 : ¬ ((!X.inQ ce) = true)) → (h2 : ¬ (fl > 0)) → (h3 : ce ≤ 0) → Res.le (.mk (.int .i64 100) [.ro 39 cs, .ro 39 rs] []) R) (k_pffff : (h0 : ¬ ((!X.inQ fl) = true)) → (h1 : ¬ ((!X.inQ ce) = true)) → (h2 : ¬ (fl > 0)) → (h3 : ¬ (ce ≤ 0)) → Res.le (.mk (.int .i64 0) [.ro 39 cs, .ro 39 rs] []) R) : CallSpec (Try.prog) (19) ([fV (slB 0 n c) fl ce (slB 1 m d)]) ([.ro 39 cs, .ro 39 rs]) R := by
  by_cases h0 : (!X.inQ fl) = true
  · exact (CallSpec.id (go_ok (exec_ok tnamed tcalm tmixed _ _ _ _) (rck_bb_F_pt n c m d cs rs fl ce hm kE hL ) (aC (kE) (aC ((rmay_done _)) (aC (h0) (aC (h0) (aC (h0) (aC (h0) (aC (h0) aN))))))))).le (k_pt h0)
  · by_cases h1 : (!X.inQ ce) = true
    · exact (CallSpec.id (go_ok (exec_ok tnamed tcalm tmixed _ _ _ _) (rck_bb_F_pft n c m d cs rs fl ce hm kE hL ) (aC (kE) (aC ((rmay_done _)) (aC ((bF h0)) (aC ((bF h0)) (aC ((bF h0)) (aC ((rmay_done _)) (aC ((bF h0)) (aC ((bF h0)) (aC (h1) aN))))))))))).le (k_pft h0 h1)
    · by_cases h2 : fl > 0
      · exact (CallSpec.id (go_ok (exec_ok tnamed tcalm tmixed _ _ _ _) (rck_bb_F_pfft n c m d cs rs fl ce hm kE hL ) (aC (kE) (aC ((rmay_done _)) (aC ((bF h0)) (aC ((bF h0)) (aC ((bF h0)) (aC ((rmay_done _)) (aC ((bF h0)) (aC ((bF h0)) (aC ((bF h1)) (aC (dT h2) (aC (dT h2) (aC (dT h2) (aC (dT h2) aN))))))))))))))).le (k_pfft h0 h1 h2)
      · by_cases h3 : ce ≤ 0
        · exact (CallSpec.id (go_ok (exec_ok tnamed tcalm tmixed _ _ _ _) (rck_bb_F_pffft n c m d cs rs fl ce hm kE hL ) (aC (kE) (aC ((rmay_done _)) (aC ((bF h0)) (aC ((bF h0)) (aC ((bF h0)) (aC ((rmay_done _)) (aC ((bF h0)) (aC ((bF h0)) (aC ((bF h1)) (aC (dF h2) (aC (dF h2) (aC (dF h2) (aC (dF h2) (aC (dT h3) aN)))))))))))))))).le (k_pffft h0 h1 h2 h3)
        · exact (CallSpec.id (go_ok (exec_ok tnamed tcalm tmixed _ _ _ _) (rck_bb_F_pffff n c m d cs rs fl ce hm kE hL ) (aC (kE) (aC ((rmay_done _)) (aC ((bF h0)) (aC ((bF h0)) (aC ((bF h0)) (aC ((rmay_done _)) (aC ((bF h0)) (aC ((bF h0)) (aC ((bF h1)) (aC (dF h2) (aC (dF h2) (aC (dF h2) (aC (dF h2) (aC (dF h3) (aC dN (aC (hL) aN)))))))))))))))))).le (k_pffff h0 h1 h2 h3)
end
section
variable (n c : Nat) (cs : List Value) (fl ce e : Int) (kE : CallSpec Try.prog 38 [slB 0 n c] [.ro 39 cs] (.mk (.int .i64 e) [.ro 39 cs] []))
include n c cs fl ce e kE
theorem rck_bn_pt : go (exec (Try.prog) (8) (19) ([fV (slB 0 n c) fl ce slN]) ([.ro 39 cs])) [(9, .call (.mk (.int .i64 e) [.ro 39 cs] [])), (7, .dec true)] = some (.mk (.int .i64 e) [.ro 39 cs] [], true, [type_of% kE, (!decide (e = 0)) = true]) := by kernel_rfl
theorem rck_bn_pft : go (exec (Try.prog) (8) (19) ([fV (slB 0 n c) fl ce slN]) ([.ro 39 cs])) [(9, .call (.mk (.int .i64 e) [.ro 39 cs] [])), (7, .dec false), (4, .call (.mk (.bool (X.inQ fl)) [] [])), (4, .dec true), (0, .dec true), (0, .dec true), (0, .dec true), (0, .dec true)] = some (.mk (.int .i64 5) [.ro 39 cs] [], true, [type_of% kE, (!decide (e = 0)) = false, CallSpec Try.prog 48 [.int .i64 fl] [] (.mk (.bool (X.inQ fl)) [] []), (!X.inQ fl) = true, (!X.inQ fl) = true, (!X.inQ fl) = true, (!X.inQ fl) = true, (!X.inQ fl) = true]) := by kernel_rfl
theorem rck_bn_pfft : go (exec (Try.prog) (8) (19) ([fV (slB 0 n c) fl ce slN]) ([.ro 39 cs])) [(9, .call (.mk (.int .i64 e) [.ro 39 cs] [])), (7, .dec false), (4, .call (.mk (.bool (X.inQ fl)) [] [])), (4, .dec false), (1, .dec false), (3, .dec false), (0, .call (.mk (.bool (X.inQ ce)) [] [])), (2, .dec false), (1, .dec false), (2, .dec true)] = some (.mk (.int .i64 5) [.ro 39 cs] [], true, [type_of% kE, (!decide (e = 0)) = false, CallSpec Try.prog 48 [.int .i64 fl] [] (.mk (.bool (X.inQ fl)) [] []), (!X.inQ fl) = false, (!X.inQ fl) = false, (!X.inQ fl) = false, CallSpec Try.prog 48 [.int .i64 ce] [] (.mk (.bool (X.inQ ce)) [] []), (!X.inQ fl) = false, (!X.inQ fl) = false, (!X.inQ ce) = true]) := by kernel_rfl
theorem rck_bn_pffft : go (exec (Try.prog) (8) (19) ([fV (slB 0 n c) fl ce slN]) ([.ro 39 cs])) [(9, .call (.mk (.int .i64 e) [.ro 39 cs] [])), (7, .dec false), (4, .call (.mk (.bool (X.inQ fl)) [] [])), (4, .dec false), (1, .dec false), (3, .dec false), (0, .call (.mk (.bool (X.inQ ce)) [] [])), (2, .dec false), (1, .dec false), (2, .dec false), (6, .dec true), (0, .dec true), (0, .dec true), (0, .dec true)] = some (.mk (.int .i64 100) [.ro 39 cs] [], true, [type_of% kE, (!decide (e = 0)) = false, CallSpec Try.prog 48 [.int .i64 fl] [] (.mk (.bool (X.inQ fl)) [] []), (!X.inQ fl) = false, (!X.inQ fl) = false, (!X.inQ fl) = false, CallSpec Try.prog 48 [.int .i64 ce] [] (.mk (.bool (X.inQ ce)) [] []), (!X.inQ fl) = false, (!X.inQ fl) = false, (!X.inQ ce) = false, decide (fl > 0) = true, decide (fl > 0) = true, decide (fl > 0) = true, decide (fl > 0) = true]) := by kernel_rfl
theorem rck_bn_pfffft : go (exec (Try.prog) (8) (19) ([fV (slB 0 n c) fl ce slN]) ([.ro 39 cs])) [(9, .call (.mk (.int .i64 e) [.ro 39 cs] [])), (7, .dec false), (4, .call (.mk (.bool (X.inQ fl)) [] [])), (4, .dec false), (1, .dec false), (3, .dec false), (0, .call (.mk (.bool (X.inQ ce)) [] [])), (2, .dec false), (1, .dec false), (2, .dec false), (6, .dec false), (1, .dec false), (3, .dec false), (1, .dec false), (2, .dec true)] = some (.mk (.int .i64 100) [.ro 39 cs] [], true, [type_of% kE, (!decide (e = 0)) = false, CallSpec Try.prog 48 [.int .i64 fl] [] (.mk (.bool (X.inQ fl)) [] []), (!X.inQ fl) = false, (!X.inQ fl) = false, (!X.inQ fl) = false, CallSpec Try.prog 48 [.int .i64 ce] [] (.mk (.bool (X.inQ ce)) [] []), (!X.inQ fl) = false, (!X.inQ fl) = false, (!X.inQ ce) = false, decide (fl > 0) = false, decide (fl > 0) = false, decide (fl > 0) = false, decide (fl > 0) = false, decide (ce ≤ 0) = true]) := by kernel_rfl
theorem rck_bn_pfffff : go (exec (Try.prog) (8) (19) ([fV (slB 0 n c) fl ce slN]) ([.ro 39 cs])) [(9, .call (.mk (.int .i64 e) [.ro 39 cs] [])), (7, .dec false), (4, .call (.mk (.bool (X.inQ fl)) [] [])), (4, .dec false), (1, .dec false), (3, .dec false), (0, .call (.mk (.bool (X.inQ ce)) [] [])), (2, .dec false), (1, .dec false), (2, .dec false), (6, .dec false), (1, .dec false), (3, .dec false), (1, .dec false), (2, .dec false)] = some (.mk (.int .i64 0) [.ro 39 cs] [], true, [type_of% kE, (!decide (e = 0)) = false, CallSpec Try.prog 48 [.int .i64 fl] [] (.mk (.bool (X.inQ fl)) [] []), (!X.inQ fl) = false, (!X.inQ fl) = false, (!X.inQ fl) = false, CallSpec Try.prog 48 [.int .i64 ce] [] (.mk (.bool (X.inQ ce)) [] []), (!X.inQ fl) = false, (!X.inQ fl) = false, (!X.inQ ce) = false, decide (fl > 0) = false, decide (fl > 0) = false, decide (fl > 0) = false, decide (fl > 0) = false, decide (ce ≤ 0) = false]) := by kernel_rfl
theorem rck_bn (R : Res) (k_pt : (h0 : ¬e = 0) → Res.le (.mk (.int .i64 e) [.ro 39 cs] []) R) (k_pft : (h0 : ¬ (¬e = 0)) → (h1 : (!X.inQ fl) = true) → Res.le (.mk (.int .i64 5) [.ro 39 cs] []) R) (k_pfft : (h0 : ¬ (¬e = 0)) → (h1 : ¬ ((!X.inQ fl) = true)) → (h2 : (!X.inQ ce) = true) → Res.le (.mk (.int .i64 5) [.ro 39 cs] []) R) (k_pffft : (h0 : ¬ (¬e = 0)) → (h1 : ¬ ((!X.inQ fl) = true)) → (h2 : ¬ ((!X.inQ ce) = true)) → (h3 : fl > 0) → Res.le (.mk (.int .i64 100) [.ro 39 cs] []) R) (k_pfffft : (h0 : ¬ (¬e = 0)) → (h1 : ¬ ((!X.inQ fl) = true)) → (h2 : ¬ ((!X.inQ ce) = true)) → (h3 : ¬ (fl > 0)) → (h4 : ce ≤ 0) → Res.le (.mk (.int .i64 100) [.ro 39 cs] []) R) (k_pfffff : (h0 : ¬ (¬e = 0)) → (h1 : ¬ ((!X.inQ fl) = true)) → (h2 : ¬ ((!X.inQ ce) = true)) → (h3 : ¬ (fl > 0)) → (h4 : ¬ (ce ≤ 0)) → Res.le (.mk (.int .i64 0) [.ro 39 cs] []) R) : CallSpec (Try.prog) (19) ([fV (slB 0 n c) fl ce slN]) ([.ro 39 cs]) R := by
  by_cases h0 : ¬e = 0
  · exact (CallSpec.id (go_ok (exec_ok tnamed tcalm tmixed _ _ _ _) (rck_bn_pt n c cs fl ce e kE ) (aC (kE) (aC ((by simpa using h0)) aN)))).le (k_pt h0)
  · by_cases h1 : (!X.inQ fl) = true
    · exact (CallSpec.id (go_ok (exec_ok tnamed tcalm tmixed _ _ _ _) (rck_bn_pft n c cs fl ce e kE ) (aC (kE) (aC ((by simpa using h0)) (aC ((rmay_done _)) (aC (h1) (aC (h1) (aC (h1) (aC (h1) (aC (h1) aN)))))))))).le (k_pft h0 h1)
    · by_cases h2 : (!X.inQ ce) = true
      · exact (CallSpec.id (go_ok (exec_ok tnamed tcalm tmixed _ _ _ _) (rck_bn_pfft n c cs fl ce e kE ) (aC (kE) (aC ((by simpa using h0)) (aC ((rmay_done _)) (aC ((bF h1)) (aC ((bF h1)) (aC ((bF h1)) (aC ((rmay_done _)) (aC ((bF h1)) (aC ((bF h1)) (aC (h2) aN)))))))))))).le (k_pfft h0 h1 h2)
      · by_cases h3 : fl > 0
        · exact (CallSpec.id (go_ok (exec_ok tnamed tcalm tmixed _ _ _ _) (rck_bn_pffft n c cs fl ce e kE ) (aC (kE) (aC ((by simpa using h0)) (aC ((rmay_done _)) (aC ((bF h1)) (aC ((bF h1)) (aC ((bF h1)) (aC ((rmay_done _)) (aC ((bF h1)) (aC ((bF h1)) (aC ((bF h2)) (aC (dT h3) (aC (dT h3) (aC (dT h3) (aC (dT h3) aN)))))))))))))))).le (k_pffft h0 h1 h2 h3)
        · by_cases h4 : ce ≤ 0
          · exact (CallSpec.id (go_ok (exec_ok tnamed tcalm tmixed _ _ _ _) (rck_bn_pfffft n c cs fl ce e kE ) (aC (kE) (aC ((by simpa using h0)) (aC ((rmay_done _)) (aC ((bF h1)) (aC ((bF h1)) (aC ((bF h1)) (aC ((rmay_done _)) (aC ((bF h1)) (aC ((bF h1)) (aC ((bF h2)) (aC (dF h3) (aC (dF h3) (aC (dF h3) (aC (dF h3) (aC (dT h4) aN))))))))))))))))).le (k_pfffft h0 h1 h2 h3 h4)
          · exact (CallSpec.id (go_ok (exec_ok tnamed tcalm tmixed _ _ _ _) (rck_bn_pfffff n c cs fl ce e kE ) (aC (kE) (aC ((by simpa using h0)) (aC ((rmay_done _)) (aC ((bF h1)) (aC ((bF h1)) (aC ((bF h1)) (aC ((rmay_done _)) (aC ((bF h1)) (aC ((bF h1)) (aC ((bF h2)) (aC (dF h3) (aC (dF h3) (aC (dF h3) (aC (dF h3) (aC (dF h4) aN))))))))))))))))).le (k_pfffff h0 h1 h2 h3 h4)
end
section
variable (n c : Nat) (cs : List Value) (fl ce e : Int) (kE : CallSpec Try.prog 38 [slB 0 n c] [.ro 39 cs] (.mk (.int .i64 e) [.ro 39 cs] []))
include n c cs fl ce e kE
theorem rck_bd_pt : go (exec (Try.prog) (8) (19) ([fV (slB 0 n c) fl ce (slD 1)]) ([.ro 39 cs, .dead])) [(9, .call (.mk (.int .i64 e) [.ro 39 cs] [])), (7, .dec true)] = some (.mk (.int .i64 e) [.ro 39 cs, .dead] [], true, [type_of% kE, (!decide (e = 0)) = true]) := by kernel_rfl
theorem rck_bd_pft : go (exec (Try.prog) (8) (19) ([fV (slB 0 n c) fl ce (slD 1)]) ([.ro 39 cs, .dead])) [(9, .call (.mk (.int .i64 e) [.ro 39 cs] [])), (7, .dec false), (4, .call (.mk (.bool (X.inQ fl)) [] [])), (4, .dec true), (0, .dec true), (0, .dec true), (0, .dec true), (0, .dec true)] = some (.mk (.int .i64 5) [.ro 39 cs, .dead] [], true, [type_of% kE, (!decide (e = 0)) = false, CallSpec Try.prog 48 [.int .i64 fl] [] (.mk (.bool (X.inQ fl)) [] []), (!X.inQ fl) = true, (!X.inQ fl) = true, (!X.inQ fl) = true, (!X.inQ fl) = true, (!X.inQ fl) = true]) := by kernel_rfl
theorem rck_bd_pfft : go (exec (Try.prog) (8) (19) ([fV (slB 0 n c) fl ce (slD 1)]) ([.ro 39 cs, .dead])) [(9, .call (.mk (.int .i64 e) [.ro 39 cs] [])), (7, .dec false), (4, .call (.mk (.bool (X.inQ fl)) [] [])), (4, .dec false), (1, .dec false), (3, .dec false), (0, .call (.mk (.bool (X.inQ ce)) [] [])), (2, .dec false), (1, .dec false), (2, .dec true)] = some (.mk (.int .i64 5) [.ro 39 cs, .dead] [], true, [type_of% kE, (!decide (e = 0)) = false, CallSpec Try.prog 48 [.int .i64 fl] [] (.mk (.bool (X.inQ fl)) [] []), (!X.inQ fl) = false, (!X.inQ fl) = false, (!X.inQ fl) = false, CallSpec Try.prog 48 [.int .i64 ce] [] (.mk (.bool (X.inQ ce)) [] []), (!X.inQ fl) = false, (!X.inQ fl) = false, (!X.inQ ce) = true]) := by kernel_rfl
theorem rck_bd_pffft : go (exec (Try.prog) (8) (19) ([fV (slB 0 n c) fl ce (slD 1)]) ([.ro 39 cs, .dead])) [(9, .call (.mk (.int .i64 e) [.ro 39 cs] [])), (7, .dec false), (4, .call (.mk (.bool (X.inQ fl)) [] [])), (4, .dec false), (1, .dec false), (3, .dec false), (0, .call (.mk (.bool (X.inQ ce)) [] [])), (2, .dec false), (1, .dec false), (2, .dec false), (6, .dec true), (0, .dec true), (0, .dec true), (0, .dec true)] = some (.mk (.int .i64 100) [.ro 39 cs, .dead] [], true, [type_of% kE, (!decide (e = 0)) = false, CallSpec Try.prog 48 [.int .i64 fl] [] (.mk (.bool (X.inQ fl)) [] []), (!X.inQ fl) = false, (!X.inQ fl) = false, (!X.inQ fl) = false, CallSpec Try.prog 48 [.int .i64 ce] [] (.mk (.bool (X.inQ ce)) [] []), (!X.inQ fl) = false, (!X.inQ fl) = false, (!X.inQ ce) = false, decide (fl > 0) = true, decide (fl > 0) = true, decide (fl > 0) = true, decide (fl > 0) = true]) := by kernel_rfl
theorem rck_bd_pfffft : go (exec (Try.prog) (8) (19) ([fV (slB 0 n c) fl ce (slD 1)]) ([.ro 39 cs, .dead])) [(9, .call (.mk (.int .i64 e) [.ro 39 cs] [])), (7, .dec false), (4, .call (.mk (.bool (X.inQ fl)) [] [])), (4, .dec false), (1, .dec false), (3, .dec false), (0, .call (.mk (.bool (X.inQ ce)) [] [])), (2, .dec false), (1, .dec false), (2, .dec false), (6, .dec false), (1, .dec false), (3, .dec false), (1, .dec false), (2, .dec true)] = some (.mk (.int .i64 100) [.ro 39 cs, .dead] [], true, [type_of% kE, (!decide (e = 0)) = false, CallSpec Try.prog 48 [.int .i64 fl] [] (.mk (.bool (X.inQ fl)) [] []), (!X.inQ fl) = false, (!X.inQ fl) = false, (!X.inQ fl) = false, CallSpec Try.prog 48 [.int .i64 ce] [] (.mk (.bool (X.inQ ce)) [] []), (!X.inQ fl) = false, (!X.inQ fl) = false, (!X.inQ ce) = false, decide (fl > 0) = false, decide (fl > 0) = false, decide (fl > 0) = false, decide (fl > 0) = false, decide (ce ≤ 0) = true]) := by kernel_rfl
theorem rck_bd_pfffff : go (exec (Try.prog) (8) (19) ([fV (slB 0 n c) fl ce (slD 1)]) ([.ro 39 cs, .dead])) [(9, .call (.mk (.int .i64 e) [.ro 39 cs] [])), (7, .dec false), (4, .call (.mk (.bool (X.inQ fl)) [] [])), (4, .dec false), (1, .dec false), (3, .dec false), (0, .call (.mk (.bool (X.inQ ce)) [] [])), (2, .dec false), (1, .dec false), (2, .dec false), (6, .dec false), (1, .dec false), (3, .dec false), (1, .dec false), (2, .dec false)] = some (.mk (.int .i64 0) [.ro 39 cs, .dead] [], true, [type_of% kE, (!decide (e = 0)) = false, CallSpec Try.prog 48 [.int .i64 fl] [] (.mk (.bool (X.inQ fl)) [] []), (!X.inQ fl) = false, (!X.inQ fl) = false, (!X.inQ fl) = false, CallSpec Try.prog 48 [.int .i64 ce] [] (.mk (.bool (X.inQ ce)) [] []), (!X.inQ fl) = false, (!X.inQ fl) = false, (!X.inQ ce) = false, decide (fl > 0) = false, decide (fl > 0) = false, decide (fl > 0) = false, decide (fl > 0) = false, decide (ce ≤ 0) = false]) := by kernel_rfl
theorem rck_bd (R : Res) (k_pt : (h0 : ¬e = 0) → Res.le (.mk (.int .i64 e) [.ro 39 cs, .dead] []) R) (k_pft : (h0 : ¬ (¬e = 0)) → (h1 : (!X.inQ fl) = true) → Res.le (.mk (.int .i64 5) [.ro 39 cs, .dead] []) R) (k_pfft : (h0 : ¬ (¬e = 0)) → (h1 : ¬ ((!X.inQ fl) = true)) → (h2 : (!X.inQ ce) = true) → Res.le (.mk (.int .i64 5) [.ro 39 cs, .dead] []) R) (k_pffft : (h0 : ¬ (¬e = 0)) → (h1 : ¬ ((!X.inQ fl) = true)) → (h2 : ¬ ((!X.inQ ce) = true)) → (h3 : fl > 0) → Res.le (.mk (.int .i64 100) [.ro 39 cs, .dead] []) R) (k_pfffft : (h0 : ¬ (¬e = 0)) → (h1 : ¬ ((!X.inQ fl) = true)) → (h2 : ¬ ((!X.inQ ce) = true)) → (h3 : ¬ (fl > 0)) → (h4 : ce ≤ 0) → Res.le (.mk (.int .i64 100) [.ro 39 cs, .dead] []) R) (k_pfffff : (h0 : ¬ (¬e = 0)) → (h1 : ¬ ((!X.inQ fl) = true)) → (h2 : ¬ ((!X.inQ ce) = true)) → (h3 : ¬ (fl > 0)) → (h4 : ¬ (ce ≤ 0)) → Res.le (.mk (.int .i64 0) [.ro 39 cs, .dead] []) R) : CallSpec (Try.prog) (19) ([fV (slB 0 n c) fl ce (slD 1)]) ([.ro 39 cs, .dead]) R := by
  by_cases h0 : ¬e = 0
  · exact (CallSpec.id (go_ok (exec_ok tnamed tcalm tmixed _ _ _ _) (rck_bd_pt n c cs fl ce e kE ) (aC (kE) (aC ((by simpa using h0)) aN)))).le (k_pt h0)
  · by_cases h1 : (!X.inQ fl) = true
    · exact (CallSpec.id (go_ok (exec_ok tnamed tcalm tmixed _ _ _ _) (rck_bd_pft n c cs fl ce e kE ) (aC (kE) (aC ((by simpa using h0)) (aC ((rmay_done _)) (aC (h1) (aC (h1) (aC (h1) (aC (h1) (aC (h1) aN)))))))))).le (k_pft h0 h1)
    · by_cases h2 : (!X.inQ ce) = true
      · exact (CallSpec.id (go_ok (exec_ok tnamed tcalm tmixed _ _ _ _) (rck_bd_pfft n c cs fl ce e kE ) (aC (kE) (aC ((by simpa using h0)) (aC ((rmay_done _)) (aC ((bF h1)) (aC ((bF h1)) (aC ((bF h1)) (aC ((rmay_done _)) (aC ((bF h1)) (aC ((bF h1)) (aC (h2) aN)))))))))))).le (k_pfft h0 h1 h2)
      · by_cases h3 : fl > 0
        · exact (CallSpec.id (go_ok (exec_ok tnamed tcalm tmixed _ _ _ _) (rck_bd_pffft n c cs fl ce e kE ) (aC (kE) (aC ((by simpa using h0)) (aC ((rmay_done _)) (aC ((bF h1)) (aC ((bF h1)) (aC ((bF h1)) (aC ((rmay_done _)) (aC ((bF h1)) (aC ((bF h1)) (aC ((bF h2)) (aC (dT h3) (aC (dT h3) (aC (dT h3) (aC (dT h3) aN)))))))))))))))).le (k_pffft h0 h1 h2 h3)
        · by_cases h4 : ce ≤ 0
          · exact (CallSpec.id (go_ok (exec_ok tnamed tcalm tmixed _ _ _ _) (rck_bd_pfffft n c cs fl ce e kE ) (aC (kE) (aC ((by simpa using h0)) (aC ((rmay_done _)) (aC ((bF h1)) (aC ((bF h1)) (aC ((bF h1)) (aC ((rmay_done _)) (aC ((bF h1)) (aC ((bF h1)) (aC ((bF h2)) (aC (dF h3) (aC (dF h3) (aC (dF h3) (aC (dF h3) (aC (dT h4) aN))))))))))))))))).le (k_pfffft h0 h1 h2 h3 h4)
          · exact (CallSpec.id (go_ok (exec_ok tnamed tcalm tmixed _ _ _ _) (rck_bd_pfffff n c cs fl ce e kE ) (aC (kE) (aC ((by simpa using h0)) (aC ((rmay_done _)) (aC ((bF h1)) (aC ((bF h1)) (aC ((bF h1)) (aC ((rmay_done _)) (aC ((bF h1)) (aC ((bF h1)) (aC ((bF h2)) (aC (dF h3) (aC (dF h3) (aC (dF h3) (aC (dF h3) (aC (dF h4) aN))))))))))))))))).le (k_pfffff h0 h1 h2 h3 h4)
end
section
variable (fl ce : Int)
include fl ce
theorem rck_nn_p : go (exec (Try.prog) (8) (19) ([fV slN fl ce slN]) ([])) [(9, .call (.mk (.int .i64 90) [] []))] = some (.mk (.int .i64 90) [] [], true, [CallSpec Try.prog 38 [sN] [] (.mk (.int .i64 90) [] [])]) := by kernel_rfl
theorem rck_nn (R : Res) (k_p : Res.le (.mk (.int .i64 90) [] []) R) : CallSpec (Try.prog) (19) ([fV slN fl ce slN]) ([]) R := by
  exact (CallSpec.id (go_ok (exec_ok tnamed tcalm tmixed _ _ _ _) (rck_nn_p fl ce ) (aC ((rs_nil _ res_refl)) aN))).le (k_p )
end
section
variable (fl ce : Int)
include fl ce
theorem rck_nd_p : go (exec (Try.prog) (8) (19) ([fV slN fl ce (slD 0)]) ([.dead])) [(9, .call (.mk (.int .i64 90) [] []))] = some (.mk (.int .i64 90) [.dead] [], true, [CallSpec Try.prog 38 [sN] [] (.mk (.int .i64 90) [] [])]) := by kernel_rfl
theorem rck_nd (R : Res) (k_p : Res.le (.mk (.int .i64 90) [.dead] []) R) : CallSpec (Try.prog) (19) ([fV slN fl ce (slD 0)]) ([.dead]) R := by
  exact (CallSpec.id (go_ok (exec_ok tnamed tcalm tmixed _ _ _ _) (rck_nd_p fl ce ) (aC ((rs_nil _ res_refl)) aN))).le (k_p )
end
section
variable (m d : Nat) (rs : List Value) (fl ce : Int)
include m d rs fl ce
theorem rck_nb_p : go (exec (Try.prog) (8) (19) ([fV slN fl ce (slB 0 m d)]) ([.ro 39 rs])) [(9, .call (.mk (.int .i64 90) [] []))] = some (.mk (.int .i64 90) [.ro 39 rs] [], true, [CallSpec Try.prog 38 [sN] [] (.mk (.int .i64 90) [] [])]) := by kernel_rfl
theorem rck_nb (R : Res) (k_p : Res.le (.mk (.int .i64 90) [.ro 39 rs] []) R) : CallSpec (Try.prog) (19) ([fV slN fl ce (slB 0 m d)]) ([.ro 39 rs]) R := by
  exact (CallSpec.id (go_ok (exec_ok tnamed tcalm tmixed _ _ _ _) (rck_nb_p m d rs fl ce ) (aC ((rs_nil _ res_refl)) aN))).le (k_p )
end
section
variable (fl ce : Int)
include fl ce
theorem rck_dn_p : go (exec (Try.prog) (8) (19) ([fV (slD 0) fl ce slN]) ([.dead])) [(9, .call (.mk (.int .i64 90) [.dead] []))] = some (.mk (.int .i64 90) [.dead] [], true, [CallSpec Try.prog 38 [(sB 0 0 0)] [.dead] (.mk (.int .i64 90) [.dead] [])]) := by kernel_rfl
theorem rck_dn (R : Res) (k_p : Res.le (.mk (.int .i64 90) [.dead] []) R) : CallSpec (Try.prog) (19) ([fV (slD 0) fl ce slN]) ([.dead]) R := by
  exact (CallSpec.id (go_ok (exec_ok tnamed tcalm tmixed _ _ _ _) (rck_dn_p fl ce ) (aC ((rs_dead _ res_refl)) aN))).le (k_p )
end
section
variable (fl ce : Int)
include fl ce
theorem rck_dd_p : go (exec (Try.prog) (8) (19) ([fV (slD 0) fl ce (slD 1)]) ([.dead, .dead])) [(9, .call (.mk (.int .i64 90) [.dead] []))] = some (.mk (.int .i64 90) [.dead, .dead] [], true, [CallSpec Try.prog 38 [(sB 0 0 0)] [.dead] (.mk (.int .i64 90) [.dead] [])]) := by kernel_rfl
theorem rck_dd (R : Res) (k_p : Res.le (.mk (.int .i64 90) [.dead, .dead] []) R) : CallSpec (Try.prog) (19) ([fV (slD 0) fl ce (slD 1)]) ([.dead, .dead]) R := by
  exact (CallSpec.id (go_ok (exec_ok tnamed tcalm tmixed _ _ _ _) (rck_dd_p fl ce ) (aC ((rs_dead _ res_refl)) aN))).le (k_p )
end
section
variable (m d : Nat) (rs : List Value) (fl ce : Int)
include m d rs fl ce
theorem rck_db_p : go (exec (Try.prog) (8) (19) ([fV (slD 0) fl ce (slB 1 m d)]) ([.dead, .ro 39 rs])) [(9, .call (.mk (.int .i64 90) [.dead] []))] = some (.mk (.int .i64 90) [.dead, .ro 39 rs] [], true, [CallSpec Try.prog 38 [(sB 0 0 0)] [.dead] (.mk (.int .i64 90) [.dead] [])]) := by kernel_rfl
theorem rck_db (R : Res) (k_p : Res.le (.mk (.int .i64 90) [.dead, .ro 39 rs] []) R) : CallSpec (Try.prog) (19) ([fV (slD 0) fl ce (slB 1 m d)]) ([.dead, .ro 39 rs]) R := by
  exact (CallSpec.id (go_ok (exec_ok tnamed tcalm tmixed _ _ _ _) (rck_db_p m d rs fl ce ) (aC ((rs_dead _ res_refl)) aN))).le (k_p )
end
end Go.Proofs.Ytjalkjeldlchoaa.Ex
end
