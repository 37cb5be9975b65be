/- How an argument that came in is laid open, type by type: a value that can be read as data is one of a kind (Kd), and no larger than the form's reach. -/
import Derived.Test.YtannklfnfacpeaaWWords
import Derived.Test.YtannklfnfacpeaaWLast
import Derived.SizedLaws
import Derived.ChangeSlices
import Derived.OpenShut
import Derived.Deep.Slices
import Derived.Lib.SmallJoins
import Derived.ProofKit
namespace Go.Proofs.Ytannklfnfacpeaa.HOpen
open Go.RowKit Go.Proofs.YtannklfnfacpeaaW.PrintWords Go.Proofs.YtannklfnfacpeaaW.PrintLast Go.ChangeShapes Go.WideShapes
set_option linter.unusedVariables false
set_option linter.unusedSimpArgs false
structure Opens {α : Type} (P : Program) (t : TypeId) (d : Kd α) (good : α → Prop) : Prop where
  sz : P.cellsOf t = d.sz
  op : ∀ {H : Type} {enc : TypeId × Value → H} {W : World} {held : Bool} {fuel : Nat} {cs : List Value} {x : DataW H × List MemPlace},
    DataW.trod enc P W 0 (fun _ => true) held fuel t cs = some x → (∀ n ∈ x.1.weights P t, n ≤ 140737488351232) → ∃ a, d.K W a cs ∧ good a
section
variable {P : Program} {t e : TypeId} {α β : Type}
theorem Opens.mono {d : Kd α} {g g' : α → Prop} (h : Opens P t d g) (hg : ∀ a, g a → g' a) : Opens P t d g' := ⟨h.sz, fun h1 h2 => by
  obtain ⟨a, h3, h4⟩ := h.op h1 h2
  exact ⟨a, h3, hg a h4⟩⟩
theorem Opens.int {k : IntKind} (hc : P.cellsOf t = 1) (hu : P.underlying t = some (.int k)) : Opens P t (Kd.int k) (fun a => (Lit.int k a).wf = true) := ⟨hc, fun h _ => by
  obtain ⟨n, rfl, _, hw⟩ := DataW.trod_int hu h
  exact ⟨n, rfl, hw⟩⟩
theorem Opens.bool (hc : P.cellsOf t = 1) (hu : P.underlying t = some .bool) : Opens P t Kd.bool (fun _ => True) := ⟨hc, fun h _ => by
  obtain ⟨n, rfl, _⟩ := DataW.trod_bool hu h
  exact ⟨n, rfl, trivial⟩⟩
theorem Opens.string (hc : P.cellsOf t = 1) (hu : P.underlying t = some .string) : Opens P t Kd.string (fun s => s.size ≤ 140737488351232) := ⟨hc, fun h hw => by
  obtain ⟨s, rfl, rfl, _⟩ := DataW.trod_string hu h
  have := hw s.data.toList.length (by simp [DataW.weights])
  exact ⟨s, rfl, by simpa using this⟩⟩
theorem cells_of {W : World} {a : Addr} {n : Nat} {cs : List Value} (h : W.cells? 0 a n = some cs) : cs.length = n ∧ ∀ i u, cs[i]? = some u → W.cell? (a.add i) = some u := by
  obtain ⟨_, hl, hc⟩ := World.cells?_some h
  refine ⟨hl, fun i u hu => ?_⟩
  rw [hc i (by have := (List.getElem?_eq_some_iff.1 hu).1; omega)]
  exact hu
theorem weights_all {H : Type} {ds : List (DataW H)} {d : DataW H} (h : d ∈ ds) : ∀ n ∈ d.weights P e, n ∈ DataW.weightsAll P e ds := by
  induction ds with
  | nil => cases h
  | cons d0 ds ih =>
    intro n hn
    simp only [DataW.weightsAll, List.mem_append]
    rcases List.mem_cons.1 h with rfl | h
    · exact .inl hn
    · exact .inr (ih h n hn)
theorem Opens.slice {d : Kd α} {good : α → Prop} (B : Nat) (hc : P.cellsOf t = 1) (hu : P.underlying t = some (.slice e)) (hB : P.bytesOf e = B) (h : Opens P e d good) :
    Opens P t (Kd.slice e d) (fun l => l.length * B ≤ 140737488351232 ∧ ∀ a ∈ l, good a) := ⟨hc, fun {H enc W held fuel cs x} ht hw => by
  rcases Go.Deep.open_slice hu ht with ⟨rfl, _⟩ | ⟨a, len, cap, m, n, D, Pl, rfl, _, hlc, hcm, hm, rfl, hel⟩
  · exact ⟨[], ⟨none, 0, rfl, Nat.le_refl _, Kd.C_nil _ _⟩, by simp, by simp⟩
  · simp only [if_true] at hm
    subst hm
    have hbytes := hw ((((List.range len).map D).length + ((List.range (m - len)).map fun j => D (len + j)).length) * P.bytesOf e) (by simp [DataW.weights, hu])
    have hone : ∀ i, i < len → ∃ a1 c, c.length = d.sz ∧ d.K W a1 c ∧ good a1 ∧ ∀ q u, c[q]? = some u → W.cell? (a.add (i * d.sz + q)) = some u := by
      intro i hi
      obtain ⟨cs', hcs', htr⟩ := hel i (by omega)
      obtain ⟨hl', hcell⟩ := cells_of hcs'
      obtain ⟨a1, hK, hg⟩ := h.op htr (fun n hn => hw n (by
        simp only [DataW.weights, hu, List.mem_cons, List.mem_append]
        refine .inr (.inl (weights_all (d := D i) ?_ n hn))
        exact List.mem_map.2 ⟨i, by simpa using hi, rfl⟩))
      refine ⟨a1, cs', d.K_len hK, hK, hg, fun q u hu' => ?_⟩
      have := hcell q u hu'
      rw [h.sz] at this
      have ha : (a.add (i * d.sz)).add q = a.add (i * d.sz + q) := by
        unfold Addr.add
        repeat' split
        all_goals first | rfl | (simp_all; done) | (simp_all; omega)
      rwa [ha] at this
    have hlist : ∃ l : List α, l.length = len ∧ ∀ i p, l[i]? = some p → good p ∧ ∃ c, c.length = d.sz ∧ d.K W p c ∧ ∀ q u, c[q]? = some u → W.cell? (a.add (i * d.sz + q)) = some u := by
      clear hbytes hw ht
      have key : ∀ k, k ≤ len → ∃ l : List α, l.length = k ∧ ∀ i p, l[i]? = some p → good p ∧ ∃ c, c.length = d.sz ∧ d.K W p c ∧ ∀ q u, c[q]? = some u → W.cell? (a.add (i * d.sz + q)) = some u := by
        intro k
        induction k with
        | zero => exact fun _ => ⟨[], rfl, fun i p hp => by simp at hp⟩
        | succ k ih =>
          intro hk
          obtain ⟨l, hl, hall⟩ := ih (by omega)
          obtain ⟨a1, c, hc1, hK, hg, hcell⟩ := hone k (by omega)
          refine ⟨l ++ [a1], by simp [hl], fun i p hp => ?_⟩
          rcases Nat.lt_or_ge i l.length with hi | hi
          · rw [List.getElem?_append_left hi] at hp
            exact hall i p hp
          · rw [List.getElem?_append_right hi] at hp
            have hi0 : i - l.length = 0 := by
              rcases Nat.eq_zero_or_pos (i - l.length) with h0 | h0
              · exact h0
              · rw [List.getElem?_eq_none (by simp; omega)] at hp
                cases hp
            rw [hi0] at hp
            simp at hp
            subst hp
            obtain rfl : i = k := by omega
            exact ⟨hg, c, hc1, hK, hcell⟩
      exact key len (Nat.le_refl _)
    obtain ⟨l, hl, hall⟩ := hlist
    have h63 : len ≤ 9223372036854775807 := by simp only [maxLen] at hcm; omega
    subst hl
    refine ⟨l, ⟨some a, m, rfl, hlc, rfl, h63, fun _ => ⟨a, rfl, fun j p hp => ?_⟩⟩, ?_, fun p hp => ?_⟩
    · obtain ⟨_, c, h1, h2, h3⟩ := hall j p hp
      exact ⟨c, h1, h2, h3⟩
    · rw [hB] at hbytes
      simp only [List.length_map, List.length_range] at hbytes
      exact Nat.le_trans (Nat.mul_le_mul_right _ (by omega)) hbytes
    · obtain ⟨i, hi, rfl⟩ := List.getElem_of_mem hp
      exact (hall i _ (List.getElem?_eq_getElem hi)).1⟩
/-- The fields of a struct, from one on. -/
structure OpensF {α : Type} (P : Program) (fs : List Field) (off : Nat) (d : Kd α) (good : α → Prop) : Prop where
  op : ∀ {H : Type} {enc : TypeId × Value → H} {W : World} {held : Bool} {n : Nat} {cs : List Value} {xs : List (DataW H × List MemPlace)},
    cs.length = off + d.sz → xs.length = fs.length → (∀ (i : Nat) f, fs[i]? = some f → DataW.trod enc P W 0 (fun _ => true) held n f.type ((cs.drop f.offset).take (P.cellsOf f.type)) = xs[i]?) →
    (∀ m ∈ DataW.weightsEach P (fs.map (·.type)) (xs.map (·.1)), m ≤ 140737488351232) → ∃ a, d.K W a (cs.drop off) ∧ good a
theorem OpensF.one {d : Kd α} {good : α → Prop} {f : Field} {off : Nat} (ho : f.offset = off) (h : Opens P f.type d good) : OpensF P [f] off d good := ⟨fun {H enc W held n cs xs} hl hx ht hw => by
  match xs, hx with
  | [x0], _ =>
    have h0 := ht 0 f rfl
    rw [ho, h.sz, List.take_of_length_le (by simp; omega)] at h0
    exact h.op h0 (fun m hm => hw m (by simpa [DataW.weightsEach] using hm))⟩
theorem OpensF.cons {d : Kd α} {d2 : Kd β} {g : α → Prop} {g2 : β → Prop} {f : Field} {fs : List Field} {off : Nat} (ho : f.offset = off) (h : Opens P f.type d g) (hr : OpensF P fs (off + d.sz) d2 g2) :
    OpensF P (f :: fs) off (Kd.pair d d2) (fun a => g a.1 ∧ g2 a.2) := ⟨fun {H enc W held n cs xs} hl hx ht hw => by
  match xs, hx with
  | x0 :: xs, hx =>
    have hl2 : (Kd.pair d d2).sz = d.sz + d2.sz := rfl
    rw [hl2] at hl
    have h0 := ht 0 f rfl
    rw [ho, h.sz] at h0
    obtain ⟨a, hK, hg⟩ := h.op h0 (fun m hm => hw m (by simp only [List.map_cons, DataW.weightsEach, List.mem_append]; exact .inl hm))
    obtain ⟨b, hK2, hg2⟩ := hr.op (W := W) (cs := cs) (xs := xs) (by omega) (by simpa using hx) (fun i f2 hf => ht (i + 1) f2 (by simpa using hf)) (fun m hm => hw m (by simp only [List.map_cons, DataW.weightsEach, List.mem_append]; exact .inr hm))
    refine ⟨(a, b), ⟨(cs.drop off).take d.sz, cs.drop (off + d.sz), ?_, hK, hK2⟩, hg, hg2⟩
    rw [← List.drop_drop, List.take_append_drop]⟩
theorem Opens.struct {d : Kd α} {good : α → Prop} {fs : Array Field} (hu : P.underlying t = some (.struct fs)) (hc : P.cellsOf t = d.sz) (h : OpensF P fs.toList 0 d good) : Opens P t d good := ⟨hc, fun {H enc W held fuel cs x} ht hw => by
  obtain ⟨xs, n, _, rfl, hl, hlen, hf⟩ := DataW.trod_struct hu ht
  have := h.op (W := W) (cs := cs) (xs := xs) (by rw [hl, hc]; simp) (by simpa using hlen) (fun i f hf' => hf i f (by simpa using hf')) (fun m hm => hw m (by simpa [DataW.weights, hu] using hm))
  simpa using this⟩
theorem Opens.iso {d : Kd α} {good : α → Prop} (f : β → α) (g : α → β) (hfg : ∀ a, f (g a) = a) (h : Opens P t d good) : Opens P t (Kd.iso d f) (fun b => good (f b)) := ⟨h.sz, fun h1 h2 => by
  obtain ⟨a, h3, h4⟩ := h.op h1 h2
  exact ⟨g a, by show d.K _ (f (g a)) _; rw [hfg]; exact h3, by rw [hfg]; exact h4⟩⟩
theorem agg_of {cs : Array Value} {l : List Value} (h : (Value.agg cs).cells.toList = l) : Value.agg cs = .agg l.toArray := by
  subst h
  simp [Value.cells]
theorem weights_arg {H : Type} {ts : List TypeId} {ds : List (DataW H)} (h : (DataW.weightsEach P ts ds).all (· ≤ reachBytes) = true) (j : Nat) {t : TypeId} {d : DataW H} (ht : ts[j]? = some t) (hd : ds[j]? = some d) : ∀ n ∈ d.weights P t, n ≤ 140737488351232 := fun n hn => by
  have := List.all_eq_true.1 h n (DataW.weights_mem_each ht hd n hn)
  exact of_decide_eq_true this
end
end Go.Proofs.Ytannklfnfacpeaa.HOpen
