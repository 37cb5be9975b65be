/- A field may be just what its width says: for every kind, every field of it, every number there. -/
import Derived.Test.YteleiocdjcdgcaaXx9
import Derived.Test.YteleiocdjcdgcaaXPSame
import Derived.Test.YteleiocdjcdgcaaXHKit
namespace Go.Proofs.Yteleiocdjcdgcaa.X
open Go.RowKit Go.Proofs.YteleiocdjcdgcaaW.PrintWords Go.Proofs.YteleiocdjcdgcaaW.PrintLast
set_option linter.unusedVariables false
theorem zeros_fit (ws : List Int) : (∀ w ∈ ws, W5 w) → ∃ bs, encL ws (List.replicate ws.length 0) = some bs := by
  induction ws with
  | nil => exact fun _ => ⟨[], rfl⟩
  | cons w ws ih =>
    intro h
    obtain ⟨bs, hb⟩ := ih (fun x hx => h x (List.mem_cons_of_mem _ hx))
    have hf : fitB 0 w = true := by
      rcases h w (by simp) with rfl | rfl | rfl | rfl | rfl <;> rfl
    refine ⟨le (nb w) 0 ++ bs, ?_⟩
    rw [List.length_cons, List.replicate_succ]
    simp only [encL, hf, if_true, hb, Option.map_some]
theorem one_fit (ws : List Int) : ∀ (i : Nat) (n : Int) (hi : i < ws.length), (∀ w ∈ ws, W5 w) → (encL ws ((List.replicate ws.length 0).set i n)).isSome = fitB n ws[i] := by
  induction ws with
  | nil => intro i n hi; simp at hi
  | cons w ws ih =>
    intro i n hi h
    rw [List.length_cons, List.replicate_succ]
    cases i with
    | zero =>
      obtain ⟨bs, hb⟩ := zeros_fit ws (fun x hx => h x (List.mem_cons_of_mem _ hx))
      simp only [List.set_cons_zero, encL, hb, Option.map_some, List.getElem_cons_zero]
      by_cases hf : fitB n w = true
      · simp [hf]
      · simp [hf]
    | succ i =>
      have hf : fitB 0 w = true := by
        rcases h w (by simp) with rfl | rfl | rfl | rfl | rfl <;> rfl
      simp only [List.set_cons_succ, encL, hf, if_true, Option.isSome_map, List.getElem_cons_succ]
      exact ih i n (by simpa using hi) (fun x hx => h x (List.mem_cons_of_mem _ hx))
theorem edge_enc (kind : Int) (i : Nat) (n : Int) (hi : i < (widthsTab kind).length) :
    (encS 0 kind ((List.replicate (widthsTab kind).length 0).set i n)).2.2.2 = if fitB n (widthsTab kind)[i] = true then 0 else 5 := by
  have h1 := one_fit (widthsTab kind) i n hi (widths_W5 kind).1
  unfold encS
  rw [if_neg (by omega), if_neg (by simp), if_neg (by omega)]
  rcases he : encL (widthsTab kind) ((List.replicate (widthsTab kind).length 0).set i n) with _ | bs
  · rw [he] at h1
    rw [← h1]
    rfl
  · rw [he] at h1
    rw [← h1]
    rfl
/-- What follows in MsgsEdges, the place being one of the kind's fields. -/
def edgeRest (k : Nat) (x0 : Int) (i : Nat) (x2 : Int) (x7 : List Int) : Option Bool :=
  (msgs_Encode.f k 0 x0 ((List.replicate x7.length 0).set i x2)).bind fun bt260 => (if (i : Int) < (x7.length : Int) then (if (rd x7 (i : Int)) = 1 then (if x2 ≥ 0 then (windhoverlaw05_MsgsEdges.j1 k bt260.2.2.2 (decide (x2 ≤ 255))) else (windhoverlaw05_MsgsEdges.j1 k bt260.2.2.2 false)) else (if (rd x7 (i : Int)) = 2 then (if x2 ≥ 0 then (windhoverlaw05_MsgsEdges.j1 k bt260.2.2.2 (decide (x2 ≤ 65535))) else (windhoverlaw05_MsgsEdges.j1 k bt260.2.2.2 false)) else (if (rd x7 (i : Int)) = 4 then (if x2 ≥ 0 then (windhoverlaw05_MsgsEdges.j1 k bt260.2.2.2 (decide (x2 ≤ 4294967295))) else (windhoverlaw05_MsgsEdges.j1 k bt260.2.2.2 false)) else (if (rd x7 (i : Int)) = (-2) then (if x2 ≥ (-32768) then (windhoverlaw05_MsgsEdges.j1 k bt260.2.2.2 (decide (x2 ≤ 32767))) else (windhoverlaw05_MsgsEdges.j1 k bt260.2.2.2 false)) else (if (rd x7 (i : Int)) = (-4) then (if x2 ≥ (-2147483648) then (windhoverlaw05_MsgsEdges.j1 k bt260.2.2.2 (decide (x2 ≤ 2147483647))) else (windhoverlaw05_MsgsEdges.j1 k bt260.2.2.2 false)) else (windhoverlaw05_MsgsEdges.j1 k bt260.2.2.2 false)))))) else (none))
theorem MsgsEdges (a0 : Int) (a1 : Int) (a2 : Int) (w0 : (Lit.int .u8 a0).wf = true) (w1 : (Lit.int .i64 a1).wf = true) (w2 : (Lit.int .i64 a2).wf = true) : ∃ k, windhoverlaw05_MsgsEdges.f k a0 a1 a2 = some true := by
  have hk := HKit.wf_u8 w0
  refine Ev.rounds ?_
  unfold windhoverlaw05_MsgsEdges.f
  refine Ev.bind (refWidths_ev a0) ?_
  have hlen : (refTab a0).length = (widthsTab a0).length := by simp [refTab]
  have h7 := (widths_W5 a0).2
  by_cases h1 : a1 < 0
  · simp only [h1, if_true]
    exact Ev.step (f := fun k => (windhoverlaw05_awake.f k).bind fun t255 => (some t255)) (fun k => rfl) (Ev.bind awake_ev (Ev.now _))
  · simp only [h1, if_false]
    by_cases h2 : a1 ≥ ((refTab a0).length : Int)
    · rw [decide_eq_true h2]
      exact Ev.step (f := fun k => (windhoverlaw05_awake.f k).bind fun t255 => (some t255)) (fun k => rfl) (Ev.bind awake_ev (Ev.now _))
    · rw [decide_eq_false h2]
      obtain ⟨i, rfl⟩ := Int.eq_ofNat_of_zero_le (show 0 ≤ a1 by omega)
      have hin : i < (widthsTab a0).length := by omega
      have hw := (widths_W5 a0).1 _ (List.getElem_mem hin)
      have hrd : rd (refTab a0) (i : Int) = (widthsTab a0)[i] / 8 := refTab_at (widthsTab a0) i hin
      refine Ev.step (f := fun k => edgeRest k a0 i a2 (refTab a0)) (fun k => ?_) ?_
      · simp only [windhoverlaw05_MsgsEdges.j0, edgeRest]
        rw [if_neg (by decide), if_pos (by omega), if_pos (by simp; omega), Option.bind_some, if_pos (by omega), if_pos (by simp; omega)]
        simp only [Int.toNat_natCast]
      · unfold edgeRest
        refine Ev.bind (enc_ev 0 a0 _ hk) ?_
        have hfin : ∀ b : Bool, b = fitB a2 (widthsTab a0)[i] → Ev (fun k => windhoverlaw05_MsgsEdges.j1 k (encS 0 a0 ((List.replicate (refTab a0).length 0).set i a2)).2.2.2 b) true := by
          intro b hb
          refine Ev.step (f := fun k => (windhoverlaw05_awake.f k).bind fun t266 => (if t266 = true then (if (((encS 0 a0 ((List.replicate (refTab a0).length 0).set i a2)).2.2.2 == 0) == b) = true then (if b = true then (some true) else (some ((encS 0 a0 ((List.replicate (refTab a0).length 0).set i a2)).2.2.2 == 5))) else (some false)) else (some false))) (fun k => rfl) (Ev.bind awake_ev ?_)
          rw [hlen, edge_enc a0 i a2 hin, ← hb]
          cases b
          · exact Ev.now _
          · exact Ev.now _
        rw [hrd]
        obtain ⟨w, hw'⟩ : ∃ w, w = (widthsTab a0)[i] := ⟨_, rfl⟩
        rw [← hw'] at hw hfin ⊢
        rcases hw with rfl | rfl | rfl | rfl | rfl
        · refine Ev.congr (f := fun k => windhoverlaw05_MsgsEdges.j1 k (encS 0 a0 ((List.replicate (refTab a0).length 0).set i a2)).2.2.2 (fitB a2 8)) (fun k => ?_) (hfin _ rfl)
          rw [if_pos (by omega), if_pos (by decide)]
          by_cases c : a2 ≥ 0
          · rw [if_pos c, show fitB a2 8 = decide (a2 ≤ 255) by rw [Bool.eq_iff_iff]; simp [fitB, lo, hi]; omega]
          · rw [if_neg c, show fitB a2 8 = false by simp [fitB, lo, hi]; omega]
        · refine Ev.congr (f := fun k => windhoverlaw05_MsgsEdges.j1 k (encS 0 a0 ((List.replicate (refTab a0).length 0).set i a2)).2.2.2 (fitB a2 16)) (fun k => ?_) (hfin _ rfl)
          rw [if_pos (by omega), if_neg (by decide), if_pos (by decide)]
          by_cases c : a2 ≥ 0
          · rw [if_pos c, show fitB a2 16 = decide (a2 ≤ 65535) by rw [Bool.eq_iff_iff]; simp [fitB, lo, hi]; omega]
          · rw [if_neg c, show fitB a2 16 = false by simp [fitB, lo, hi]; omega]
        · refine Ev.congr (f := fun k => windhoverlaw05_MsgsEdges.j1 k (encS 0 a0 ((List.replicate (refTab a0).length 0).set i a2)).2.2.2 (fitB a2 32)) (fun k => ?_) (hfin _ rfl)
          rw [if_pos (by omega), if_neg (by decide), if_neg (by decide), if_pos (by decide)]
          by_cases c : a2 ≥ 0
          · rw [if_pos c, show fitB a2 32 = decide (a2 ≤ 4294967295) by rw [Bool.eq_iff_iff]; simp [fitB, lo, hi]; omega]
          · rw [if_neg c, show fitB a2 32 = false by simp [fitB, lo, hi]; omega]
        · refine Ev.congr (f := fun k => windhoverlaw05_MsgsEdges.j1 k (encS 0 a0 ((List.replicate (refTab a0).length 0).set i a2)).2.2.2 (fitB a2 (-16))) (fun k => ?_) (hfin _ rfl)
          rw [if_pos (by omega), if_neg (by decide), if_neg (by decide), if_neg (by decide), if_pos (by decide)]
          by_cases c : a2 ≥ -32768
          · rw [if_pos c, show fitB a2 (-16) = decide (a2 ≤ 32767) by rw [Bool.eq_iff_iff]; simp [fitB, lo, hi]; omega]
          · rw [if_neg c, show fitB a2 (-16) = false by simp [fitB, lo, hi]; omega]
        · refine Ev.congr (f := fun k => windhoverlaw05_MsgsEdges.j1 k (encS 0 a0 ((List.replicate (refTab a0).length 0).set i a2)).2.2.2 (fitB a2 (-32))) (fun k => ?_) (hfin _ rfl)
          rw [if_pos (by omega), if_neg (by decide), if_neg (by decide), if_neg (by decide), if_neg (by decide), if_pos (by decide)]
          by_cases c : a2 ≥ -2147483648
          · rw [if_pos c, show fitB a2 (-32) = decide (a2 ≤ 2147483647) by rw [Bool.eq_iff_iff]; simp [fitB, lo, hi]; omega]
          · rw [if_neg c, show fitB a2 (-32) = false by simp [fitB, lo, hi]; omega]
end Go.Proofs.Yteleiocdjcdgcaa.X
