/- A polygon that begins elsewhere, or goes the other way round: what is wrong with it, its area, and on which side a point is. -/
import Derived.Test.YtannklfnfacpeaaXMA1
import Derived.Test.YtannklfnfacpeaaXMSimp
import Derived.Test.YtannklfnfacpeaaXMAreaA
import Derived.Test.YtannklfnfacpeaaXx6
namespace Go.Proofs.Ytannklfnfacpeaa.X
open Go.RowKit Go.Proofs.YtannklfnfacpeaaW.PrintWords Go.Proofs.YtannklfnfacpeaaW.PrintLast Go.Proofs.YtannklfnfacpeaaW.PrintMore
set_option linter.unusedVariables false
set_option linter.unusedSimpArgs false
/-- A polygon's corners, by all whole numbers. -/
def cy (l : List S23) (z : Int) : S23 := nx l (z % (l.length : Int)).toNat
theorem cy_nat (l : List S23) (i : Nat) : cy l (i : Int) = nx l i := by
  have e : ((i : Int) % (l.length : Int)) = ((i % l.length : Nat) : Int) := rfl
  rw [cy, e, Int.toNat_natCast, nx, nx, Nat.mod_mod]
theorem cy_eq {l : List S23} {x y : Int} (m : Int) (h : x = y + (l.length : Int) * m) : cy l x = cy l y := by
  rw [cy, cy, h, Int.add_mul_emod_self_left]
theorem cy_pt {l : List S23} {i : Nat} (h : i < l.length) : cy l (i : Int) = pt l i := by rw [cy_nat, nx_lt h]
theorem by_mod {n : Nat} (h0 : 0 < n) (z : Int) : ∃ (a : Nat) (m : Int), a < n ∧ z = (a : Int) + (n : Int) * m := by
  have h1 := Int.emod_nonneg z (show (n : Int) ≠ 0 by omega)
  have h2 := Int.emod_lt_of_pos z (show (0 : Int) < n by omega)
  refine ⟨(z % (n : Int)).toNat, z / (n : Int), by omega, ?_⟩
  have := Int.mul_ediv_add_emod z (n : Int)
  rw [Int.toNat_of_nonneg h1]
  omega
theorem cy_in {l : List S23} (h0 : 0 < l.length) (z : Int) : ∃ a : Nat, a < l.length ∧ ∀ t, cy l (z + t) = cy l ((a : Int) + t) := by
  obtain ⟨a, m, ha, e⟩ := by_mod h0 z
  exact ⟨a, ha, fun t => cy_eq m (by omega)⟩
def tix (n K : Nat) (b : Bool) (i : Nat) : Nat := if b = true then n - 1 - (i + K) % n else (i + K) % n
theorem tix_lt {n K : Nat} {b : Bool} {i : Nat} (h0 : 0 < n) : tix n K b i < n := by
  unfold tix
  have := Nat.mod_lt (i + K) h0
  split <;> omega
def roundV (l : List S23) (K : Nat) (b : Bool) : List S23 := (List.range l.length).map fun i => pt l (tix l.length K b i)
theorem roundV_len (l : List S23) (K : Nat) (b : Bool) : (roundV l K b).length = l.length := by simp [roundV]
theorem roundV_pt {l : List S23} {K : Nat} {b : Bool} {i : Nat} (h : i < l.length) : pt (roundV l K b) i = pt l (tix l.length K b i) := by simp [pt, rd_T23, roundV, h]
theorem roundV_cy {l : List S23} {K : Nat} {b : Bool} (h0 : 0 < l.length) (z : Int) : cy (roundV l K b) z = if b = true then cy l (-1 - (K : Int) - z) else cy l ((K : Int) + z) := by
  have hl := roundV_len l K b
  obtain ⟨a, m, ha, e⟩ := by_mod h0 z
  have e1 : cy (roundV l K b) z = cy (roundV l K b) (a : Int) := cy_eq m (by rw [hl]; exact e)
  rw [e1, cy_pt (by omega), roundV_pt ha, ← cy_pt (tix_lt h0)]
  have md := Nat.div_add_mod (a + K) l.length
  have lt := Nat.mod_lt (a + K) h0
  unfold tix
  cases b with
  | true =>
    rw [if_pos rfl, if_pos rfl]
    refine (cy_eq (-1 - m - (((a + K) / l.length : Nat) : Int)) ?_).symm
    rw [Int.mul_sub, Int.mul_sub]
    have : (l.length : Int) * (((a + K) / l.length : Nat) : Int) = ((l.length * ((a + K) / l.length) : Nat) : Int) := by simp
    omega
  | false =>
    rw [if_neg Bool.false_ne_true, if_neg Bool.false_ne_true]
    refine (cy_eq (m + (((a + K) / l.length : Nat) : Int)) ?_).symm
    rw [Int.mul_add]
    have : (l.length : Int) * (((a + K) / l.length : Nat) : Int) = ((l.length * ((a + K) / l.length) : Nat) : Int) := by simp
    omega
/-- One is the other, begun elsewhere or gone the other way round. -/
structure Tu (l o : List S23) : Prop where
  len : o.length = l.length
  ex : ∃ c : Int, (∀ z, cy o z = cy l (c + z)) ∨ (∀ z, cy o z = cy l (c - z))
theorem Tu.symm {l o : List S23} (h : Tu l o) : Tu o l := by
  obtain ⟨h1, c, h2 | h2⟩ := h
  · exact ⟨h1.symm, -c, .inl fun z => by rw [h2]; congr 1; omega⟩
  · exact ⟨h1.symm, c, .inr fun z => by rw [h2]; congr 1; omega⟩
theorem Tu.of {l : List S23} (h0 : 0 < l.length) (K : Nat) (b : Bool) : Tu l (roundV l K b) := by
  refine ⟨roundV_len l K b, ?_⟩
  cases b with
  | true => exact ⟨-1 - (K : Int), .inr fun z => by rw [roundV_cy h0, if_pos rfl]⟩
  | false => exact ⟨(K : Int), .inl fun z => by rw [roundV_cy h0, if_neg Bool.false_ne_true]⟩
theorem any_cy {l : List S23} (h0 : 0 < l.length) (f : S23 → Bool) : l.any f = true ↔ ∃ z, f (cy l z) = true := by
  rw [List.any_eq_true]
  constructor
  · rintro ⟨x, hx, hf⟩
    obtain ⟨i, hi, rfl⟩ := List.getElem_of_mem hx
    refine ⟨(i : Int), ?_⟩
    rw [cy_pt hi]
    simpa [pt, rd_T23, hi] using hf
  · rintro ⟨z, hz⟩
    obtain ⟨a, ha, e⟩ := cy_in h0 z
    have e0 := e 0
    rw [Int.add_zero, Int.add_zero] at e0
    rw [e0, cy_pt ha] at hz
    refine ⟨l[a], List.getElem_mem ha, ?_⟩
    simpa [pt, rd_T23, ha] using hz
theorem upt_cy {l : List S23} (h0 : 0 < l.length) (f : S23 × S23 → Bool) : (upt l l.length).any f = true ↔ ∃ z, f (cy l z, cy l (z + 1)) = true := by
  rw [List.any_eq_true]
  constructor
  · rintro ⟨x, hx, hf⟩
    obtain ⟨i, hi, rfl⟩ := upt_mem hx
    refine ⟨(i : Int), ?_⟩
    rw [cy_pt hi, show (i : Int) + 1 = ((i + 1 : Nat) : Int) by omega, cy_nat]
    exact hf
  · rintro ⟨z, hz⟩
    obtain ⟨a, ha, e⟩ := cy_in h0 z
    have e0 := e 0
    rw [Int.add_zero, Int.add_zero] at e0
    rw [e0, e 1, cy_pt ha, show (a : Int) + 1 = ((a + 1 : Nat) : Int) by omega, cy_nat] at hz
    exact ⟨_, mem_upt ha, hz⟩
theorem bool_same {a b : Bool} (h1 : a = true → b = true) (h2 : b = true → a = true) : a = b := by
  cases a <;> cases b <;> simp_all
theorem Tu.any {l o : List S23} (h : Tu l o) (h0 : 0 < l.length) (f : S23 → Bool) : o.any f = l.any f := by
  have one : ∀ l o : List S23, Tu l o → 0 < l.length → o.any f = true → l.any f = true := by
    intro l o h h0 ho
    have hl := h.len
    obtain ⟨z, hz⟩ := (any_cy (by omega) f).1 ho
    obtain ⟨c, e | e⟩ := h.ex
    · exact (any_cy h0 f).2 ⟨_, by rw [← e z]; exact hz⟩
    · exact (any_cy h0 f).2 ⟨_, by rw [← e z]; exact hz⟩
  exact bool_same (one l o h h0) (one o l h.symm (by have := h.len; omega))
theorem Tu.sides {l o : List S23} (h : Tu l o) (h0 : 0 < l.length) (f : S23 × S23 → Bool) (hf : ∀ z, f (cy l z, cy l (z + 1)) = true → f (cy l (z + 1), cy l z) = true) (hf2 : ∀ z, f (cy l (z + 1), cy l z) = true → f (cy l z, cy l (z + 1)) = true) :
    (upt o o.length).any f = (upt l l.length).any f := by
  have hl := h.len
  obtain ⟨c, e | e⟩ := h.ex
  · refine bool_same (fun ho => ?_) (fun ho => ?_)
    · obtain ⟨z, hz⟩ := (upt_cy (by omega) f).1 ho
      rw [e, e, ← Int.add_assoc] at hz
      exact (upt_cy h0 f).2 ⟨_, hz⟩
    · obtain ⟨z, hz⟩ := (upt_cy h0 f).1 ho
      refine (upt_cy (by omega) f).2 ⟨z - c, ?_⟩
      rw [e, e, show c + (z - c) = z by omega, show c + (z - c + 1) = z + 1 by omega]
      exact hz
  · refine bool_same (fun ho => ?_) (fun ho => ?_)
    · obtain ⟨z, hz⟩ := (upt_cy (by omega) f).1 ho
      rw [e, e, show c - z = c - (z + 1) + 1 by omega] at hz
      exact (upt_cy h0 f).2 ⟨_, hf2 _ hz⟩
    · obtain ⟨z, hz⟩ := (upt_cy h0 f).1 ho
      refine (upt_cy (by omega) f).2 ⟨c - z - 1, ?_⟩
      rw [e, e, show c - (c - z - 1) = z + 1 by omega, show c - (c - z - 1 + 1) = z by omega]
      exact hf _ hz
theorem Tu.twins {l o : List S23} (h : Tu l o) (h0 : 0 < l.length) : (upt o o.length).any twin = (upt l l.length).any twin := by
  have sw : ∀ a b : S23, twin (a, b) = true → twin (b, a) = true := by
    intro a b g
    simp only [twin, Bool.and_eq_true, beq_iff_eq] at g ⊢
    exact ⟨g.1.symm, g.2.symm⟩
  exact h.sides h0 twin (fun z => sw _ _) (fun z => sw _ _)
/-- The corners are within the bounds, and no side is a point. -/
structure Okay (l : List S23) : Prop where
  three : 3 ≤ l.length
  ins : ∀ z, InB (cy l z).f0 ∧ InB (cy l z).f1
  ne : ∀ z, ¬ ((cy l z).f0 = (cy l (z + 1)).f0 ∧ (cy l z).f1 = (cy l (z + 1)).f1)
def spikeC (l : List S23) (z : Int) : Prop := spikeV (cy l z).f0 (cy l z).f1 (cy l (z + 1)).f0 (cy l (z + 1)).f1 (cy l (z + 2)).f0 (cy l (z + 2)).f1 = true
def pairC (l : List S23) (z d : Int) : Prop := meetV (cy l z).f0 (cy l z).f1 (cy l (z + 1)).f0 (cy l (z + 1)).f1 (cy l (z + d)).f0 (cy l (z + d)).f1 (cy l (z + d + 1)).f0 (cy l (z + d + 1)).f1 = true
theorem tangC {l : List S23} (h : Okay l) : tangledV l = true ↔ (∃ z, spikeC l z) ∨ ∃ z d : Int, 2 ≤ d ∧ d + 2 ≤ l.length ∧ pairC l z d := by
  have h3 := h.three
  have h0 : 0 < l.length := by omega
  rw [tangledV_iff]
  constructor
  · rintro (⟨i, hi, g⟩ | ⟨i, j, h1, h2, h4, g⟩)
    · refine .inl ⟨(i : Int), ?_⟩
      unfold spikeC
      rw [cy_pt hi, show (i : Int) + 1 = ((i + 1 : Nat) : Int) by omega, show (i : Int) + 2 = ((i + 2 : Nat) : Int) by omega, cy_nat, cy_nat]
      exact g
    · refine .inr ⟨(i : Int), (j : Int) - i, by omega, by omega, ?_⟩
      unfold pairC
      rw [show (i : Int) + ((j : Int) - i) = (j : Int) by omega, cy_pt (show i < l.length by omega), show (i : Int) + 1 = ((i + 1 : Nat) : Int) by omega, cy_pt (show i + 1 < l.length by omega), cy_pt h2, show (j : Int) + 1 = ((j + 1 : Nat) : Int) by omega, cy_nat]
      exact g
  · rintro (⟨z, g⟩ | ⟨z, d, h1, h2, g⟩)
    · obtain ⟨a, ha, e⟩ := cy_in h0 z
      have e0 := e 0
      rw [Int.add_zero, Int.add_zero] at e0
      refine .inl ⟨a, ha, ?_⟩
      unfold spikeC at g
      rw [e0, e, e, cy_pt ha, show (a : Int) + 1 = ((a + 1 : Nat) : Int) by omega, show (a : Int) + 2 = ((a + 2 : Nat) : Int) by omega, cy_nat, cy_nat] at g
      exact g
    · obtain ⟨a, ha, e⟩ := cy_in h0 z
      have e0 := e 0
      rw [Int.add_zero, Int.add_zero] at e0
      have ea := cy_pt ha
      have eb : cy l ((a : Int) + 1) = nx l (a + 1) := by rw [show (a : Int) + 1 = ((a + 1 : Nat) : Int) by omega, cy_nat]
      have ins := h.ins
      unfold pairC at g
      rw [Int.add_assoc z d 1] at g
      by_cases c : (a : Int) + d < l.length
      · refine .inr ⟨a, ((a : Int) + d).toNat, by omega, by omega, by omega, ?_⟩
        rw [e0, e, e, e, ea, show (a : Int) + 1 = ((a + 1 : Nat) : Int) by omega, cy_pt (show a + 1 < l.length by omega), show (a : Int) + d = ((((a : Int) + d).toNat : Nat) : Int) by omega, show (a : Int) + (d + 1) = ((((a : Int) + d).toNat + 1 : Nat) : Int) by omega, cy_nat, cy_nat, nx_lt (by omega)] at g
        exact g
      · have g2 : meetV (cy l (z + d)).f0 (cy l (z + d)).f1 (cy l (z + (d + 1))).f0 (cy l (z + (d + 1))).f1 (cy l z).f0 (cy l z).f1 (cy l (z + 1)).f0 (cy l (z + 1)).f1 = true :=
          (meetV_iff (ins _) (ins _) (ins _) (ins _)).2 (geo_turn2 ((meetV_iff (ins _) (ins _) (ins _) (ins _)).1 g))
        refine .inr ⟨((a : Int) + d - l.length).toNat, a, by omega, ha, by omega, ?_⟩
        have f1 : cy l ((a : Int) + d) = pt l ((a : Int) + d - l.length).toNat := by
          rw [← cy_pt (show ((a : Int) + d - l.length).toNat < l.length by omega)]
          exact cy_eq 1 (by omega)
        have f2 : cy l ((a : Int) + (d + 1)) = pt l (((a : Int) + d - l.length).toNat + 1) := by
          rw [← cy_pt (show ((a : Int) + d - l.length).toNat + 1 < l.length by omega)]
          exact cy_eq 1 (by omega)
        rw [e, e, e0, e, f1, f2, ea, eb] at g2
        exact g2
theorem on_rev3 {a0 a1 b0 b1 s0 s1 : Int} : OnI a0 a1 b0 b1 s0 s1 ↔ OnI b0 b1 a0 a1 s0 s1 := ⟨on_rev, on_rev⟩
theorem Okay.spike_back {l : List S23} (h : Okay l) (z : Int) : spikeV (cy l (z + 2)).f0 (cy l (z + 2)).f1 (cy l (z + 1)).f0 (cy l (z + 1)).f1 (cy l z).f0 (cy l z).f1 = true ↔ spikeC l z := by
  unfold spikeC
  have n0 := h.ne z
  have n1 := h.ne (z + 1)
  rw [show z + 1 + 1 = z + 2 by omega] at n1
  rw [spikeI (h.ins _) (h.ins _) (h.ins _) (fun g => n1 ⟨g.1.symm, g.2.symm⟩) (fun g => n0 ⟨g.1.symm, g.2.symm⟩), spikeI (h.ins _) (h.ins _) (h.ins _) n0 n1]
  rw [on_rev3, on_rev3 (a0 := (cy l (z + 1)).f0) (b0 := (cy l z).f0)]
  exact Or.comm
theorem Okay.of {l : List S23} (h3 : 3 ≤ l.length) (ho : ¬ l.any outP = true) (ht : ¬ (upt l l.length).any twin = true) : Okay l := by
  refine ⟨h3, fun z => ?_, fun z g => ht ((upt_cy (by omega) twin).2 ⟨z, ?_⟩)⟩
  · refine (outP_eq _ _).1 (Bool.eq_false_iff.2 fun g => ho ((any_cy (by omega) outP).2 ⟨z, g⟩))
  · simp [twin, g.1, g.2]
theorem Tu.tangled {l o : List S23} (h : Tu l o) (hl : Okay l) (ho : Okay o) : tangledV o = tangledV l := by
  have one : ∀ l o : List S23, Tu l o → Okay l → Okay o → tangledV o = true → tangledV l = true := by
    intro l o h hl ho g
    have hlen := h.len
    have ins := hl.ins
    refine (tangC hl).2 ?_
    obtain ⟨c, e | e⟩ := h.ex
    · rcases (tangC ho).1 g with ⟨z, g⟩ | ⟨z, d, h1, h2, g⟩
      · refine .inl ⟨c + z, ?_⟩
        unfold spikeC at g ⊢
        rw [e, e, e, ← Int.add_assoc, ← Int.add_assoc] at g
        exact g
      · refine .inr ⟨c + z, d, h1, by omega, ?_⟩
        unfold pairC at g ⊢
        rw [e, e, e, e, ← Int.add_assoc c z 1, show c + (z + d) = c + z + d by omega, show c + (z + d + 1) = c + z + d + 1 by omega] at g
        exact g
    · rcases (tangC ho).1 g with ⟨z, g⟩ | ⟨z, d, h1, h2, g⟩
      · refine .inl ⟨c - z - 2, (hl.spike_back _).1 ?_⟩
        unfold spikeC at g
        rw [e, e, e] at g
        rw [show c - z - 2 + 2 = c - z by omega, show c - z - 2 + 1 = c - (z + 1) by omega, show c - z - 2 = c - (z + 2) by omega]
        exact g
      · refine .inr ⟨c - z - d - 1, d, h1, by omega, ?_⟩
        unfold pairC at g ⊢
        rw [e, e, e, e] at g
        rw [show c - z - d - 1 + d + 1 = c - z by omega, show c - z - d - 1 + d = c - (z + 1) by omega, show c - z - d - 1 + 1 = c - (z + d) by omega, show c - z - d - 1 = c - (z + d + 1) by omega]
        refine (meetV_iff (ins _) (ins _) (ins _) (ins _)).2 ?_
        have k := (meetV_iff (ins _) (ins _) (ins _) (ins _)).1 g
        exact geo_swap (geo_turn2 (geo_swap k))
  exact bool_same (one l o h hl ho) (one o l h.symm ho hl)
theorem Tu.simple {l o : List S23} (h : Tu l o) : simpleV o = simpleV l := by
  have hlen := h.len
  unfold simpleV
  by_cases c1 : l.length < 3
  · rw [if_pos (show o.length < 3 by omega), if_pos c1]
  · rw [if_neg (show ¬ o.length < 3 by omega), if_neg c1, h.any (by omega), h.twins (by omega), hlen]
    by_cases c2 : l.any outP = true
    · rw [if_pos c2, if_pos c2]
    · by_cases c3 : (upt l l.length).any twin = true
      · rw [if_pos c3, if_pos c3]
      · have ol := Okay.of (by omega) c2 c3
        have oo := Okay.of (l := o) (by omega) (by rw [h.any (by omega)]; exact c2) (by rw [h.twins (by omega)]; exact c3)
        rw [h.tangled ol oo]
theorem sm_rev (h : Int → Int) : ∀ n : Nat, sm (fun i => h ((n : Int) - 1 - (i : Int))) n = sm (fun i => h (i : Int)) n
  | 0 => rfl
  | n + 1 => by
    rw [sm_first, sm]
    have e : sm (fun k => h (((n + 1 : Nat) : Int) - 1 - ((k + 1 : Nat) : Int))) n = sm (fun i => h ((n : Int) - 1 - (i : Int))) n := sm_congr n fun k _ => by congr 1; omega
    rw [e, sm_rev h n, Int.add_comm]
    congr 2
    omega
theorem sm_cyc {h : Int → Int} {n : Nat} (h0 : 0 < n) (hp : ∀ z m : Int, h (z + (n : Int) * m) = h z) (c : Int) : sm (fun i => h (c + (i : Int))) n = sm (fun i => h (i : Int)) n := by
  obtain ⟨a, m, _, e⟩ := by_mod h0 c
  have s := sm_shift (h := fun i : Nat => h (i : Int)) (n := n) (fun k => by
    have := hp (k : Int) 1
    rw [Int.mul_one] at this
    show h ((k + n : Nat) : Int) = h (k : Int)
    rw [← this]
    rfl) a
  rw [← s]
  refine sm_congr n fun i _ => ?_
  rw [← hp ((i + a : Nat) : Int) m]
  congr 1
  omega
theorem sm_neg (h : Nat → Int) : ∀ n, sm (fun k => -h k) n = -sm h n
  | 0 => rfl
  | n + 1 => by rw [sm, sm, sm_neg h n]; omega
/-- A sum over the sides, of what turns its sign with the side. -/
theorem Tu.sum {l o : List S23} (h : Tu l o) (h0 : 0 < l.length) (g : S23 → S23 → Int) (hg : ∀ a b, g b a = -g a b) :
    ((∃ c : Int, ∀ z, cy o z = cy l (c + z)) → sm (fun i => g (nx o i) (nx o (i + 1))) o.length = sm (fun i => g (nx l i) (nx l (i + 1))) l.length) ∧
    ((∃ c : Int, ∀ z, cy o z = cy l (c - z)) → sm (fun i => g (nx o i) (nx o (i + 1))) o.length = -sm (fun i => g (nx l i) (nx l (i + 1))) l.length) := by
  have hlen := h.len
  have eo : ∀ i : Nat, g (nx o i) (nx o (i + 1)) = g (cy o (i : Int)) (cy o ((i : Int) + 1)) := fun i => by
    rw [show (i : Int) + 1 = ((i + 1 : Nat) : Int) by omega, cy_nat, cy_nat]
  have el : ∀ i : Nat, g (nx l i) (nx l (i + 1)) = g (cy l (i : Int)) (cy l ((i : Int) + 1)) := fun i => by
    rw [show (i : Int) + 1 = ((i + 1 : Nat) : Int) by omega, cy_nat, cy_nat]
  have per : ∀ z m : Int, (fun z => g (cy l z) (cy l (z + 1))) (z + (l.length : Int) * m) = (fun z => g (cy l z) (cy l (z + 1))) z := fun z m => by
    show g (cy l (z + (l.length : Int) * m)) (cy l (z + (l.length : Int) * m + 1)) = g (cy l z) (cy l (z + 1))
    rw [cy_eq m rfl, cy_eq (x := z + (l.length : Int) * m + 1) (y := z + 1) m (by omega)]
  rw [hlen]
  simp only [eo, el]
  refine ⟨fun ⟨c, e⟩ => ?_, fun ⟨c, e⟩ => ?_⟩
  · refine Eq.trans (sm_congr _ fun i _ => ?_) (sm_cyc (h := fun z => g (cy l z) (cy l (z + 1))) h0 per c)
    show g (cy o (i : Int)) (cy o ((i : Int) + 1)) = g (cy l (c + (i : Int))) (cy l (c + (i : Int) + 1))
    rw [e, e, Int.add_assoc]
  · have s := sm_cyc (h := fun z => g (cy l z) (cy l (z + 1))) h0 per (c - (l.length : Int))
    have r := sm_rev (fun i => (fun z => g (cy l z) (cy l (z + 1))) (c - (l.length : Int) + i)) l.length
    have fin : sm (fun i => g (cy o (i : Int)) (cy o ((i : Int) + 1))) l.length = sm (fun i : Nat => -((fun i => (fun z => g (cy l z) (cy l (z + 1))) (c - (l.length : Int) + i)) ((l.length : Int) - 1 - (i : Int)))) l.length := ?_
    · rw [fin, sm_neg, r]
      exact congrArg (fun x => -x) s
    refine sm_congr _ fun i _ => ?_
    show g (cy o (i : Int)) (cy o ((i : Int) + 1)) = -g (cy l (c - (l.length : Int) + ((l.length : Int) - 1 - (i : Int)))) (cy l (c - (l.length : Int) + ((l.length : Int) - 1 - (i : Int)) + 1))
    rw [e, e, ← hg, show c - (l.length : Int) + ((l.length : Int) - 1 - (i : Int)) = c - ((i : Int) + 1) by omega, show c - ((i : Int) + 1) + 1 = c - (i : Int) by omega]
theorem shoes_sm {l : List S23} : ∀ k, k ≤ l.length → shoes l k = sm (fun i => sho (nx l i) (nx l (i + 1))) k
  | 0, _ => rfl
  | k + 1, h => by rw [shoes, sm, shoes_sm k (by omega), nx_lt (i := k) (by omega)]
theorem sho_turn (a b : S23) : sho b a = -sho a b := by
  unfold sho
  simp only [Int.mul_comm]
  omega
theorem wsum_sm {l : List S23} (p q : Int) : wsum l p q l.length = sm (fun i => wst p q (nx l i).f0 (nx l i).f1 (nx l (i + 1)).f0 (nx l (i + 1)).f1) l.length := wsum_W0 p q _ (Nat.le_refl _)
/-- The side of a point is the same. -/
theorem Tu.side {l o : List S23} (h : Tu l o) (hl : simpleV l = 0) {p q : Int} (hp : InB p ∧ InB q) : sideV o p q = sideV l p q := by
  have ho : simpleV o = 0 := by rw [h.simple]; exact hl
  have gl := simpleV_zero hl
  have go := simpleV_zero ho
  clear hl ho
  have h0 : 0 < l.length := by omega
  have ol := Okay.of (l := l) gl.1 (Bool.eq_false_iff.1 gl.2.2.1) (Bool.eq_false_iff.1 gl.2.2.2.1)
  have ins := ol.ins
  have on : (upt o o.length).any (onSide p q) = (upt l l.length).any (onSide p q) := by
    have sw : ∀ a b : S23, InB a.f0 ∧ InB a.f1 → InB b.f0 ∧ InB b.f1 → onSide p q (a, b) = true → onSide p q (b, a) = true := by
      intro a b ha hb g
      exact (onSide_iff hb ha hp).2 (on_rev ((onSide_iff ha hb hp).1 g))
    exact h.sides h0 _ (fun z => sw _ _ (ins _) (ins _)) (fun z => sw _ _ (ins _) (ins _))
  have wl := (winds_sum h0 gl.2.1 gl.2.2.1 hp l.length (Nat.le_refl _)).1
  have wo := (winds_sum (l := o) (by omega) go.2.1 go.2.2.1 hp o.length (Nat.le_refl _)).1
  rw [sideV, sideV, on, wl, wo, wsum_sm, wsum_sm]
  have s := h.sum h0 (fun a b => wst p q a.f0 a.f1 b.f0 b.f1) (fun a b => wst_back _ _ _ _ _ _)
  obtain ⟨c, e | e⟩ := h.ex
  · rw [s.1 ⟨c, e⟩]
  · rw [s.2 ⟨c, e⟩]
    have : ∀ x : Int, (if -x = 0 then (-1 : Int) else 1) = if x = 0 then -1 else 1 := fun x => by split <;> split <;> omega
    rw [this]
theorem tz_shoes {l : List S23} (h0 : 0 < l.length) : tz l.length (fun i => (nx l i).f0) (fun i => (nx l i).f1) = shoes l l.length := by
  rw [shoes_sm _ (Nat.le_refl _), tz]
  have e : sm (fun k => ((nx l (k + 1)).f1 - (nx l k).f1) * ((nx l k).f0 + (nx l (k + 1)).f0)) l.length = sm (fun k => sho (nx l k) (nx l (k + 1)) + ((fun i => (nx l i).f0 * (nx l i).f1) (k + 1) - (fun i => (nx l i).f0 * (nx l i).f1) k)) l.length := by
    refine sm_congr _ fun k _ => ?_
    unfold sho
    show ((nx l (k + 1)).f1 - (nx l k).f1) * ((nx l k).f0 + (nx l (k + 1)).f0) = (nx l k).f0 * (nx l (k + 1)).f1 - (nx l k).f1 * (nx l (k + 1)).f0 + ((nx l (k + 1)).f0 * (nx l (k + 1)).f1 - (nx l k).f0 * (nx l k).f1)
    generalize (nx l (k + 1)).f0 = x'
    generalize (nx l (k + 1)).f1 = y'
    generalize (nx l k).f0 = x
    generalize (nx l k).f1 = y
    rw [Int.sub_mul, Int.mul_add, Int.mul_add, Int.mul_comm y' x, Int.mul_comm y' x', Int.mul_comm y x]
    omega
  rw [e, sm_add, sm_tele (fun i => (nx l i).f0 * (nx l i).f1)]
  show _ + ((nx l l.length).f0 * (nx l l.length).f1 - (nx l 0).f0 * (nx l 0).f1) = _
  rw [nx_len h0, nx_lt h0]
  omega
theorem area_fine {l : List S23} (hl : simpleV l = 0) : shoes l l.length ≠ 0 ∧ -4611686018427387904 ≤ shoes l l.length ∧ shoes l l.length ≤ 4611686018427387904 := by
  have g := simpleV_zero hl
  have s := simp_of hl
  clear hl
  have ins : ∀ i, InB (nx l i).f0 ∧ InB (nx l i).f1 := fun i => pt_in g.2.2.1 (Nat.mod_lt i (by omega))
  have a := area_two s (fun i => (ins i).1) (fun i => (ins i).2)
  rw [tz_shoes (by omega)] at a
  exact a
theorem turned_ev {l : List S23} {K : Nat} {b : Bool} (hn : l.length ≤ 1000) (hK : K ≤ 1000) : Ev (fun k => windhoverlaw09_turned.f k l (K : Int) b) (roundV l K b) := by
  have key : ∀ m i, i + m = l.length → Ev (fun k => windhoverlaw09_turned.l0 k l (K : Int) b ((List.range i).map fun i => pt l (tix l.length K b i)) (l.length : Int) (i : Int)) (roundV l K b) := by
    intro m
    induction m with
    | zero =>
      intro i hi
      obtain rfl : i = l.length := by omega
      exact Ev.step (f := fun _ => some (roundV l K b)) (fun k => by rw [windhoverlaw09_turned.l0, if_neg (by omega)]; rfl) (Ev.now _)
    | succ m ih =>
      intro i hi
      have h0 : 0 < l.length := by omega
      have e1 : wrap64 ((i : Int) + 1) = ((i + 1 : Nat) : Int) := w64n (i + 1) (by omega)
      have e2 : wrap64 ((i : Int) + (K : Int)) = ((i + K : Nat) : Int) := w64 (n := ((i + K : Nat) : Int)) (by omega) (by omega)
      have e3 : wrap64 ((l.length : Int) - 1) = ((l.length - 1 : Nat) : Int) := by
        rw [show (l.length : Int) - 1 = ((l.length - 1 : Nat) : Int) by omega]
        exact w64n _ (by omega)
      have lt := Nat.mod_lt (i + K) h0
      have e4 : wrap64 (((l.length - 1 : Nat) : Int) - (((i + K) % l.length : Nat) : Int)) = ((l.length - 1 - (i + K) % l.length : Nat) : Int) := by
        rw [show ((l.length - 1 : Nat) : Int) - (((i + K) % l.length : Nat) : Int) = ((l.length - 1 - (i + K) % l.length : Nat) : Int) by omega]
        exact w64n _ (by omega)
      have tl := tix_lt (n := l.length) (K := K) (b := b) (i := i) h0
      have next := ih (i + 1) (by omega)
      refine Ev.step (f := fun k => windhoverlaw09_turned.j1 k l (K : Int) b ((List.range i).map fun i => pt l (tix l.length K b i)) (l.length : Int) (i : Int) (tix l.length K b i : Int)) (fun k => ?_) (Ev.step (fun k => ?_) next)
      · rw [windhoverlaw09_turned.l0, if_pos (by omega), if_neg (by omega), e2, tmodn, e3, e4]
        unfold tix
        cases b with
        | true => rw [if_pos rfl, if_pos rfl]
        | false => rw [if_neg Bool.false_ne_true, if_neg Bool.false_ne_true]
      · rw [windhoverlaw09_turned.j1, if_pos (by omega), if_pos (by omega), if_pos (by simp; omega), e1, List.range_succ, List.map_append]
        rfl
  exact key l.length 0 (by omega)
end Go.Proofs.Ytannklfnfacpeaa.X
