/- How the arguments of a law are laid open: flat ones are what they are, a slice leads to a block that is only read. -/
import Derived.Test.YtgbncncmoiadaaaExCC
import Derived.SizedLaws
import Derived.ChangeSlices
import Derived.OpenShut
import Derived.Deep.Slices
import Derived.ShutString
import Derived.ChangeOld
import Derived.Below
import Derived.Carry
import Derived.WalkKit
import Derived.ProofKit
namespace Go.Proofs.Ytgbncncmoiadaaa.Ex
open Go Go.ChangeShapes Go.WideShapes Go.ChangeAt Go.RowKit
set_option linter.unusedVariables false
set_option linter.unusedSimpArgs false
theorem sz_mk (a : Array UInt8) : (ByteArray.mk a).size = a.size := rfl
structure OpF {α : Type} (P : Program) (t : TypeId) (f : α → List Value) (n : Nat) (good : α → Prop) : Prop where
  sz : P.cellsOf t = n
  op : ∀ {H : Type} {enc : TypeId × Value → H} {W : World} {held : Bool} {fuel : Nat} {cs : List Value} {x : DataW H × List MemPlace},
    DataW.trod enc P W 0 (fun _ => true) held fuel t cs = some x → (∀ n ∈ x.1.weights P t, n ≤ 140737488351232) → ∃ a, cs = f a ∧ (f a).length = n ∧ good a
section
variable {P : Program} {t e : TypeId} {α β : Type}
theorem OpF.mono {f : α → List Value} {n : Nat} {g g' : α → Prop} (h : OpF P t f n g) (hg : ∀ a, g a → g' a) : OpF P t f n g' := ⟨h.sz, fun h1 h2 => by
  obtain ⟨a, h3, h4, h5⟩ := h.op h1 h2
  exact ⟨a, h3, h4, hg a h5⟩⟩
theorem OpF.iso {f : α → List Value} {n : Nat} {g : α → Prop} (h : OpF P t f n g) (f' : β → List Value) (g' : β → Prop) (hi : ∀ a, g a → (f a).length = n → ∃ b, f a = f' b ∧ g' b) : OpF P t f' n g' := ⟨h.sz, fun h1 h2 => by
  obtain ⟨a, h3, h4, h5⟩ := h.op h1 h2
  obtain ⟨b, k1, k2⟩ := hi a h5 h4
  exact ⟨b, h3.trans k1, k1 ▸ h4, k2⟩⟩
theorem OpF.int {k : IntKind} (hc : P.cellsOf t = 1) (hu : P.underlying t = some (.int k)) : OpF P t (fun a => [.int k a]) 1 (fun a => (Lit.int k a).wf = true) := ⟨hc, fun h _ => by
  obtain ⟨n, rfl, _, hw⟩ := DataW.trod_int hu h
  exact ⟨n, rfl, rfl, hw⟩⟩
theorem OpF.bool (hc : P.cellsOf t = 1) (hu : P.underlying t = some .bool) : OpF P t (fun a => [.bool a]) 1 (fun _ => True) := ⟨hc, fun h _ => by
  obtain ⟨n, rfl, _⟩ := DataW.trod_bool hu h
  exact ⟨n, rfl, rfl, trivial⟩⟩
theorem OpF.string (hc : P.cellsOf t = 1) (hu : P.underlying t = some .string) : OpF P t (fun a => [.string a]) 1 (fun s => s.size ≤ 140737488351232) := ⟨hc, fun h hw => by
  obtain ⟨s, rfl, rfl, _⟩ := DataW.trod_string hu h
  have := hw s.data.toList.length (by simp [DataW.weights])
  exact ⟨s, rfl, rfl, by simpa using this⟩⟩
/-- The fields of a struct, from one on. -/
structure OpFs {α : Type} (P : Program) (fs : List Field) (off : Nat) (f : α → List Value) (n : Nat) (good : α → Prop) : Prop where
  op : ∀ {H : Type} {enc : TypeId × Value → H} {W : World} {held : Bool} {m : Nat} {cs : List Value} {xs : List (DataW H × List MemPlace)},
    cs.length = off + n → xs.length = fs.length → (∀ (i : Nat) g, fs[i]? = some g → DataW.trod enc P W 0 (fun _ => true) held m g.type ((cs.drop g.offset).take (P.cellsOf g.type)) = xs[i]?) →
    (∀ m ∈ DataW.weightsEach P (fs.map (·.type)) (xs.map (·.1)), m ≤ 140737488351232) → ∃ a, cs.drop off = f a ∧ (f a).length = n ∧ good a
theorem OpFs.one {f : α → List Value} {n : Nat} {good : α → Prop} {g : Field} {off : Nat} (ho : g.offset = off) (h : OpF P g.type f n good) : OpFs P [g] off f n good := ⟨fun {H enc W held m cs xs} hl hx ht hw => by
  match xs, hx with
  | [x0], _ =>
    have h0 := ht 0 g rfl
    rw [ho, h.sz, List.take_of_length_le (by simp; omega)] at h0
    exact h.op h0 (fun m hm => hw m (by simpa [DataW.weightsEach] using hm))⟩
theorem OpFs.cons {f : α → List Value} {f2 : β → List Value} {n n2 : Nat} {g : α → Prop} {g2 : β → Prop} {fd : Field} {fs : List Field} {off : Nat} (ho : fd.offset = off) (h : OpF P fd.type f n g) (hr : OpFs P fs (off + n) f2 n2 g2) :
    OpFs P (fd :: fs) off (fun (a : α × β) => f a.1 ++ f2 a.2) (n + n2) (fun a => g a.1 ∧ g2 a.2) := ⟨fun {H enc W held m cs xs} hl hx ht hw => by
  match xs, hx with
  | x0 :: xs, hx =>
    have h0 := ht 0 fd rfl
    rw [ho, h.sz] at h0
    obtain ⟨a, hK, hla, hg⟩ := h.op h0 (fun m hm => hw m (by simp only [List.map_cons, DataW.weightsEach, List.mem_append]; exact .inl hm))
    obtain ⟨b, hK2, hlb, hg2⟩ := hr.op (W := W) (cs := cs) (xs := xs) (by omega) (by simpa using hx) (fun i f2 hf => ht (i + 1) f2 (by simpa using hf)) (fun m hm => hw m (by simp only [List.map_cons, DataW.weightsEach, List.mem_append]; exact .inr hm))
    refine ⟨(a, b), ?_, by simp [hla, hlb], hg, hg2⟩
    rw [← hK, ← hK2, ← List.drop_drop, List.take_append_drop]⟩
theorem OpF.struct {f : α → List Value} {n : Nat} {good : α → Prop} {fs : Array Field} (hu : P.underlying t = some (.struct fs)) (hc : P.cellsOf t = n) (h : OpFs P fs.toList 0 f n good) : OpF P t f n good := ⟨hc, fun {H enc W held fuel cs x} ht hw => by
  obtain ⟨xs, m, _, rfl, hl, hlen, hf⟩ := DataW.trod_struct hu ht
  have := h.op (W := W) (cs := cs) (xs := xs) (by rw [hl, hc]; simp) (by simpa using hlen) (fun i f hf' => hf i f (by simpa using hf')) (fun m hm => hw m (by simpa [DataW.weights, hu] using hm))
  simpa using this⟩
theorem weights_all {H : Type} {ds : List (DataW H)} {d : DataW H} (h : d ∈ ds) : ∀ n ∈ d.weights P e, n ∈ DataW.weightsAll P e ds := by
  induction ds with
  | nil => cases h
  | cons d0 ds ih =>
    intro n hn
    simp only [DataW.weightsAll, List.mem_append]
    rcases List.mem_cons.1 h with rfl | h
    · exact .inl hn
    · exact .inr (ih h n hn)
/-- A row of elements, one behind the other. -/
theorem rows_of {f : α → List Value} {n : Nat} {good : α → Prop} : ∀ (k : Nat) (get : Nat → List Value), (∀ i, i < k → ∃ a, get i = f a ∧ (f a).length = n ∧ good a) →
    ∃ l : List α, l.length = k ∧ (∀ i, i < k → ∃ a, l[i]? = some a ∧ get i = f a ∧ (f a).length = n) ∧ ∀ a ∈ l, good a
  | 0, get, _ => ⟨[], rfl, fun i hi => by omega, fun a ha => by cases ha⟩
  | k + 1, get, h => by
    obtain ⟨a, h1, h2, h3⟩ := h 0 (by omega)
    obtain ⟨l, k1, k2, k3⟩ := rows_of k (fun i => get (i + 1)) (fun i hi => h (i + 1) (by omega))
    refine ⟨a :: l, by simp [k1], fun i hi => ?_, fun b hb => ?_⟩
    · cases i with
      | zero => exact ⟨a, rfl, h1, h2⟩
      | succ i => simpa using k2 i (by omega)
    · rcases List.mem_cons.1 hb with rfl | hb
      · exact h3
      · exact k3 b hb
theorem flat_len {f : α → List Value} {n : Nat} : ∀ {l : List α}, (∀ a ∈ l, (f a).length = n) → (l.flatMap f).length = l.length * n
  | [], _ => by simp
  | a :: l, h => by
    rw [List.flatMap_cons, List.length_append, h a List.mem_cons_self, flat_len (fun b hb => h b (List.mem_cons_of_mem _ hb)), List.length_cons, Nat.succ_mul]
    omega
theorem flat_get {f : α → List Value} {n : Nat} : ∀ {l : List α}, (∀ a ∈ l, (f a).length = n) → ∀ (i j : Nat) (a : α), l[i]? = some a → j < n → (l.flatMap f)[i * n + j]? = (f a)[j]?
  | [], _, i, j, a, h, _ => by simp at h
  | b :: l, hl, i, j, a, h, hj => by
    have hb := hl b List.mem_cons_self
    rw [List.flatMap_cons]
    cases i with
    | zero =>
      simp only [List.getElem?_cons_zero, Option.some.injEq] at h
      subst h
      rw [Nat.zero_mul, Nat.zero_add, List.getElem?_append_left (by omega)]
    | succ i =>
      have := flat_get (l := l) (fun c hc => hl c (List.mem_cons_of_mem _ hc)) i j a (by simpa using h) hj
      rw [List.getElem?_append_right (by rw [hb, Nat.succ_mul]; omega), ← this]
      congr 1
      rw [hb, Nat.succ_mul]
      omega
theorem OpF.array {f : α → List Value} {n : Nat} {good : α → Prop} (k : Nat) (hu : P.underlying t = some (.array k e)) (hc : P.cellsOf t = k * n) (h : OpF P e f n good) :
    OpF P t (fun l : List α => l.flatMap f) (k * n) (fun l => l.length = k ∧ ∀ a ∈ l, good a) := ⟨hc, fun {H enc W held fuel cs x} ht hw => by
  obtain ⟨xs, m, _, rfl, hl, hlen, hf⟩ := DataW.trod_array hu ht
  rw [hc] at hl
  obtain ⟨l, k1, k2, k3⟩ := rows_of (f := f) (n := n) (good := good) k (fun i => (cs.drop (i * n)).take n) (fun i hi => by
    have h1 := hf i hi
    rw [h.sz] at h1
    obtain ⟨x, hx⟩ : ∃ x, xs[i]? = some x := ⟨xs[i], by simp [hlen, hi]⟩
    rw [hx] at h1
    exact h.op h1 (fun q hq => hw q (by
      simp only [DataW.weights, hu]
      exact weights_all (List.mem_map.2 ⟨x, List.mem_of_getElem? hx, rfl⟩) q hq)))
  have hfl : ∀ a ∈ l, (f a).length = n := fun a ha => by
    obtain ⟨i, hi, rfl⟩ := List.getElem_of_mem ha
    obtain ⟨b, q1, _, q3⟩ := k2 i (by omega)
    rw [List.getElem?_eq_getElem hi] at q1
    cases q1
    exact q3
  have hll : (l.flatMap f).length = k * n := by rw [flat_len hfl, k1]
  refine ⟨l, ?_, hll, k1, k3⟩
  apply List.ext_getElem?
  intro i
  rcases Nat.lt_or_ge i (k * n) with hi | hi
  · have hn : 0 < n := by
      rcases Nat.eq_zero_or_pos n with h0 | h0
      · rw [h0, Nat.mul_zero] at hi; omega
      · exact h0
    have hq : i / n < k := Nat.div_lt_of_lt_mul (by rw [Nat.mul_comm]; exact hi)
    obtain ⟨a, q1, q2, q3⟩ := k2 (i / n) hq
    have hr := Nat.mod_lt i hn
    have e1 : i = i / n * n + i % n := by rw [Nat.mul_comm]; exact (Nat.div_add_mod i n).symm
    have := flat_get hfl (i / n) (i % n) a q1 hr
    rw [← e1] at this
    rw [this, ← q2, List.getElem?_take, if_pos hr, List.getElem?_drop, ← e1]
  · rw [List.getElem?_eq_none (by omega), List.getElem?_eq_none (by omega)]⟩
theorem cells_of {W : World} {a : Addr} {n : Nat} {cs : List Value} (h : W.cells? 0 a n = some cs) : cs.length = n ∧ ∀ (i : Nat) u, cs[i]? = some u → W.cell? (a.add i) = some u := by
  obtain ⟨_, hl, hc⟩ := World.cells?_some h
  refine ⟨hl, fun i u hu => ?_⟩
  rw [hc i (by have := (List.getElem?_eq_some_iff.1 hu).1; omega)]
  exact hu
theorem okWide_array {P : Program} {w : World} {r : Reach} {base : Nat} {t e : TypeId} {n : Nat} {v : Value} (ht : P.underlying t = some (.array n e)) (h : Value.okWide P w r base t v) : ∃ cs, v = .agg cs := by
  simp only [Value.okWide, ht] at h
  obtain ⟨cs, h1, _⟩ := h
  exact ⟨cs, h1⟩
theorem weights_arg {H : Type} {ts : List TypeId} {ds : List (DataW H)} (h : (DataW.weightsEach P ts ds).all (· ≤ reachBytes) = true) (j : Nat) {t : TypeId} {d : DataW H} (ht : ts[j]? = some t) (hd : ds[j]? = some d) : ∀ n ∈ d.weights P t, n ≤ 140737488351232 := fun n hn => by
  have := List.all_eq_true.1 h n (DataW.weights_mem_each ht hd n hn)
  exact of_decide_eq_true this
theorem agg_arr {cs : Array Value} {l : List Value} (h : l = (Value.agg cs).cells.toList) : cs = l.toArray := by
  subst h
  simp [Value.cells]
theorem agg_of {cs : Array Value} {l : List Value} (h : (Value.agg cs).cells.toList = l) : Value.agg cs = .agg l.toArray := by
  subst h
  simp [Value.cells]
/-- A slice of flat elements: nil; without elements; with some, in a block that is only read. -/
theorem open_row {f : α → List Value} {n : Nat} {good : α → Prop} (B : Nat) (hu : P.underlying t = some (.slice e)) (hB : P.bytesOf e = B) (hn : 0 < n) (hs : (sz P e).getD 0 = n) (hfl : flatT P 6 e = true ∨ True) (h : OpF P e f n good) (hfa : ∀ a, (f a).all flat1 = true)
    {H : Type} {enc : TypeId × Value → H} {W : World} {held : Bool} {fuel : Nat} {v : Value} {x : DataW H × List MemPlace} (ht : DataW.trod enc P W 0 (fun _ => true) held fuel t [v] = some x) (hw : ∀ n ∈ x.1.weights P t, n ≤ 140737488351232) :
    v = .slice none 0 0 ∨ (∃ ν, VR ν (.slice (some ⟨0, 0, none⟩) 0 0) v ∧ Rep P ν [.dead] W) ∨
    ∃ (l : List α) (ν : Nu), 0 < l.length ∧ l.length * B ≤ 140737488351232 ∧ (∀ a ∈ l, good a ∧ (f a).length = n) ∧ VR ν (.slice (some ⟨0, 0, none⟩) l.length l.length) v ∧ Rep P ν [.ro e (l.flatMap f)] W := by
  rcases Go.Deep.open_slice hu ht with ⟨h0, _⟩ | ⟨a, len, cap, m, q, D, Pl, h0, _, hlc, hcm, hm, rfl, hel⟩
  · cases h0; exact .inl rfl
  · cases h0
    right
    simp only [if_true] at hm
    subst hm
    obtain ⟨l, k1, k2, k3⟩ := rows_of (f := f) (n := n) (good := good) m (fun i => ((W.cells? 0 (a.add (i * n)) n).getD [])) (fun i hi => by
      obtain ⟨cs', h1, h2⟩ := hel i hi
      rw [h.sz] at h1
      rw [h1]
      exact h.op h2 (fun p hp => hw p (by
        simp only [DataW.weights, hu, List.mem_cons, List.mem_append]
        rcases Nat.lt_or_ge i len with hi2 | hi2
        · exact .inr (.inl (weights_all (List.mem_map.2 ⟨i, by simpa using hi2, rfl⟩) p hp))
        · exact .inr (.inr (weights_all (List.mem_map.2 ⟨i - len, by simp; omega, by simp only; rw [show len + (i - len) = i by omega]⟩) p hp)))))
    have hbytes := hw ((((List.range len).map D).length + ((List.range (m - len)).map fun j => D (len + j)).length) * P.bytesOf e) (by simp [DataW.weights, hu])
    rw [hB] at hbytes
    simp only [List.length_map, List.length_range] at hbytes
    have hfl : ∀ a ∈ l, (f a).length = n := fun a ha => by
      obtain ⟨i, hi, rfl⟩ := List.getElem_of_mem ha
      obtain ⟨b, q1, _, q3⟩ := k2 i (by omega)
      rw [List.getElem?_eq_getElem hi] at q1
      cases q1
      exact q3
    have hcell : ∀ (i j : Nat) (b : α) u, l[i]? = some b → i < m → (f b)[j]? = some u → W.cell? ((a.add (i * n)).add j) = some u := fun i j b u hb hi hj => by
      obtain ⟨cs', h1, _⟩ := hel i hi
      obtain ⟨c, q1, q2, _⟩ := k2 i hi
      rw [hb] at q1
      cases q1
      rw [h.sz] at h1
      rw [h1] at q2
      obtain ⟨_, hc⟩ := cells_of h1
      exact hc j u (by
        have : cs' = f b := q2
        rw [this]; exact hj)
    have hsp : 0 < m → a.spot = none ∧ a.block < W.heap.size := fun hm => by
      obtain ⟨c, q1, _, q3⟩ := k2 0 hm
      have := hcell 0 0 c ((f c)[0]'(by omega)) q1 hm (by simp)
      rw [Nat.zero_mul] at this
      have this : W.cell? a = some _ := this
      unfold World.cell? at this
      split at this
      · rename_i _ _ _ hh
        refine ⟨?_, (Array.getElem?_eq_some_iff.1 hh).1⟩
        split at this
        · cases this
        · rename_i hs; simpa using hs
      · cases this
    let N : Nm := ⟨a.block, a.off, m * n, n⟩
    let ν : Nu := fun id => if id = 0 then some N else none
    have hνs : 0 < m → ∃ M, ν 0 = some M ∧ (none : Option Nat) = none ∧ a = M.at 0 ∧ 0 + m * M.u = M.S := fun hm =>
      ⟨N, rfl, rfl, by
        have := (hsp hm).1
        show a = ⟨a.block, a.off + 0, none⟩
        rw [Nat.add_zero, ← this], by show 0 + m * n = m * n; omega⟩
    rcases Nat.eq_zero_or_pos len with hz | hp
    · subst hz
      refine .inl ⟨ν, ⟨a, m, rfl, Nat.zero_le _, hlc, fun hm => hνs hm⟩, fun id hid => ?_, fun id => ?_, fun i j M K hij hi => ?_⟩
      · show (if id = 0 then _ else _) = none
        rw [if_neg (by simp at hid; omega)]
      · cases id <;> exact trivial
      · cases i <;> cases hi
    · refine .inr ⟨l.take len, ν, by simp [k1]; omega, ?_, fun b hb => ⟨k3 b (List.mem_of_mem_take hb), hfl b (List.mem_of_mem_take hb)⟩, ?_, fun id hid => ?_, fun id => ?_, fun i j M K hij hi => ?_⟩
      · rw [List.length_take, k1]
        refine Nat.le_trans (Nat.mul_le_mul_right _ ?_) hbytes
        omega
      · have e : (l.take len).length = len := by rw [List.length_take, k1]; omega
        rw [e]
        exact ⟨a, m, rfl, hlc, hlc, fun hm => hνs hm⟩
      · show (if id = 0 then _ else _) = none
        rw [if_neg (by simp at hid; omega)]
      · cases id with
        | succ id => exact trivial
        | zero =>
          have hall : ((l.take len).flatMap f).all flat1 = true := by
            rw [List.all_eq_true]
            intro u hu
            obtain ⟨b, _, hb⟩ := List.mem_flatMap.1 hu
            exact List.all_eq_true.1 (hfa b) u hb
          refine ⟨N, rfl, by rw [hs], (hsp (by omega)).2, (l.take len).flatMap f, ?_, fun i u hu => ?_⟩
          · have : L2 (VR1 ν) ((l.take len).flatMap f) ((l.take len).flatMap f) := (flat_L2 hall).2 rfl
            exact CR.of this (by rw [hall]; simp)
          · have hfl' : ∀ b ∈ l.take len, (f b).length = n := fun b hb => hfl b (List.mem_of_mem_take hb)
            have hi := (List.getElem?_eq_some_iff.1 hu).1
            rw [flat_len hfl', List.length_take, k1] at hi
            have hmin : min len m = len := by omega
            rw [hmin] at hi
            have hq : i / n < len := Nat.div_lt_of_lt_mul (by rw [Nat.mul_comm]; exact hi)
            have hr := Nat.mod_lt i hn
            have e1 : i = i / n * n + i % n := by rw [Nat.mul_comm]; exact (Nat.div_add_mod i n).symm
            obtain ⟨b, q1, _, q3⟩ := k2 (i / n) (by omega)
            have q1' : (l.take len)[i / n]? = some b := by rw [List.getElem?_take, if_pos hq]; exact q1
            have := flat_get hfl' (i / n) (i % n) b q1' hr
            rw [← e1, hu] at this
            have hc := hcell (i / n) (i % n) b u q1 (by omega) this.symm
            have hsn := (hsp (by omega)).1
            have : (a.add (i / n * n)).add (i % n) = N.at i := by
              show _ = (⟨a.block, a.off + i, none⟩ : Addr)
              unfold Addr.add
              have e2 : a = ⟨a.block, a.off, none⟩ := by rw [← hsn]
              by_cases c1 : i / n * n = 0
              · rw [if_pos c1]
                by_cases c2 : i % n = 0
                · rw [if_pos c2]
                  have : i = 0 := by omega
                  subst this
                  exact e2
                · rw [if_neg c2]
                  have : i % n = i := by omega
                  rw [this]
              · rw [if_neg c1]
                by_cases c2 : i % n = 0
                · rw [if_pos c2]
                  have : i / n * n = i := by omega
                  rw [this]
                · rw [if_neg c2]
                  simp only [Addr.mk.injEq, and_true, true_and]
                  omega
            rw [this] at hc
            exact hc
      · cases i <;> cases hi
/-- What a law's contract says of the real call. -/
theorem law_calls {f : FuncId} {args args' : List Value} {hp hp' : Hp} {ν : Nu} {W : World} (h : CallSpec P f args hp ⟨.bool true, hp', []⟩) (ha : L2 (VR ν) args args') (hr : Rep P ν hp W) :
    Calls P f args'.toArray W fun e W' => e = .returned (.bool true) ∧ Below W.heap.size W W' :=
  (h ν W args' ha hr).mono fun e W' ⟨v', ν', he, hv, hi⟩ => by
    have : v' = .bool true := hv
    subst this
    exact ⟨he, hi.os, hi.tape, hi.output, hi.size, fun k hk => hi.frame k hk fun id N _ hid => by cases hid⟩
theorem row_calls {f : FuncId} {A : Array Value} {W : World} (h : ∃ (args' : List Value) (hp hp' : Hp) (ν : Nu) (args0 : List Value), A = args'.toArray ∧ L2 (VR ν) args0 args' ∧ Rep P ν hp W ∧ CallSpec P f args0 hp ⟨.bool true, hp', []⟩) :
    Calls P f A W fun e W' => e = .returned (.bool true) ∧ Below W.heap.size W W' := by
  obtain ⟨args', hp, hp', ν, args0, rfl, ha, hr, hs⟩ := h
  exact law_calls hs ha hr
/-- A contract of the real call, of values without addresses that leaves the old memory alone. -/
theorem CallSpec.of_calls {f : FuncId} {args : List Value} {v : Value} (hf : args.all flat = true) (hv : flat v = true) (h : ∀ w : World, Calls P f args.toArray w fun e w' => e = .returned v ∧ Below w.heap.size w w') (hp : Hp) : CallSpec P f args hp ⟨v, hp, []⟩ := by
  intro ν w args' ha hr
  rw [flat_args hf ha]
  refine (h w).mono fun e w' ⟨he, hb⟩ => ⟨v, ν, he, (flat_VR hv _).2 rfl, ⟨hr.dom, fun id => ?_, hr.sep⟩, Nat.le_refl _, fun _ _ => rfl, hb.os, hb.tape, hb.output, hb.size, fun g hg _ => hb.block g hg, fun id N hid _ hN => ?_⟩
  · exact (hr.blk id).le (Le.refl _) (fun M hM hl => hb.block M.g ((hr.blk id).lt hl hM)) hb.size
  · rw [hr.dom id hid] at hN; cases hN
theorem rep_none (W : World) : Rep P (fun _ => none) [] W := ⟨fun _ _ => rfl, fun id => by cases id <;> trivial, fun i j N K _ hi => by cases i <;> cases hi⟩
end
end Go.Proofs.Ytgbncncmoiadaaa.Ex
