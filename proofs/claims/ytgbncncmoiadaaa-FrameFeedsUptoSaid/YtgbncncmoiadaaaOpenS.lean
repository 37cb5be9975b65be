/- A list of strings, laid open where all is of bulk at most so much. -/
import Derived.Test.YtgbncncmoiadaaaExOpen
import Derived.Test.YtgbncncmoiadaaaRows
namespace Go.Proofs.Ytgbncncmoiadaaa.Ex
open Go Go.ChangeShapes Go.WideShapes Go.ChangeAt Go.RowKit
set_option linter.unusedVariables false
set_option linter.unusedSimpArgs false
theorem open_rowK {P : Program} {t e : TypeId} {α : Type} {f : α → List Value} {n M : Nat} {good : α → Prop} (hu : P.underlying t = some (.slice e)) (hn : 0 < n) (hs : (sz P e).getD 0 = n) (hsz : P.cellsOf e = n) (hfa : ∀ a, (f a).all flat1 = true)
    {H : Type} {enc : TypeId × Value → H} {W : World} {held : Bool} {fuel : Nat} {v : Value} {x : DataW H × List MemPlace} (K : DataW H → Prop)
    (hop : ∀ {fuel : Nat} {cs : List Value} {y : DataW H × List MemPlace}, DataW.trod enc P W 0 (fun _ => true) held fuel e cs = some y → K y.1 → ∃ a, cs = f a ∧ (f a).length = n ∧ good a)
    (ht : DataW.trod enc P W 0 (fun _ => true) held fuel t [v] = some x) (hK : ∀ elems rest, x.1 = .slice elems rest → (∀ d ∈ elems ++ rest, K d) ∧ elems.length + rest.length ≤ M) :
    v = .slice none 0 0 ∨ (∃ ν, VR ν (.slice (some ⟨0, 0, none⟩) 0 0) v ∧ Rep P ν [.dead] W) ∨
    ∃ (l : List α) (ν : Nu), 0 < l.length ∧ l.length ≤ M ∧ (∀ a ∈ l, good a ∧ (f a).length = n) ∧ VR ν (.slice (some ⟨0, 0, none⟩) l.length l.length) v ∧ Rep P ν [.ro e (l.flatMap f)] W := by
  rcases Go.Deep.open_slice hu ht with ⟨h0, _⟩ | ⟨a, len, cap, m, q, D, Pl, h0, _, hlc, hcm, hm, rfl, hel⟩
  · cases h0; exact .inl rfl
  · cases h0
    right
    simp only [if_true] at hm
    subst hm
    obtain ⟨l, k1, k2, k3⟩ := rows_of (f := f) (n := n) (good := good) m (fun i => ((W.cells? 0 (a.add (i * n)) n).getD [])) (fun i hi => by
      obtain ⟨cs', h1, h2⟩ := hel i hi
      rw [hsz] at h1
      rw [h1]
      exact hop h2 ((hK _ _ rfl).1 _ (by
        rcases Nat.lt_or_ge i len with hi2 | hi2
        · exact List.mem_append.2 (.inl (List.mem_map.2 ⟨i, by simpa using hi2, rfl⟩))
        · exact List.mem_append.2 (.inr (List.mem_map.2 ⟨i - len, by simp; omega, by simp only; rw [show len + (i - len) = i by omega]⟩)))))
    have hbytes := (hK _ _ rfl).2
    simp only [List.length_map, List.length_range] at hbytes
    have hfl : ∀ a ∈ l, (f a).length = n := fun a ha => by
      obtain ⟨i, hi, rfl⟩ := List.getElem_of_mem ha
      obtain ⟨b, q1, _, q3⟩ := k2 i (by omega)
      rw [List.getElem?_eq_getElem hi] at q1
      cases q1
      exact q3
    have hcell : ∀ (i j : Nat) (b : α) u, l[i]? = some b → i < m → (f b)[j]? = some u → W.cell? ((a.add (i * n)).add j) = some u := fun i j b u hb hi hj => by
      obtain ⟨cs', h1, _⟩ := hel i hi
      obtain ⟨c, q1, q2, _⟩ := k2 i hi
      rw [hb] at q1
      cases q1
      rw [hsz] at h1
      rw [h1] at q2
      obtain ⟨_, hc⟩ := cells_of h1
      exact hc j u (by
        have : cs' = f b := q2
        rw [this]; exact hj)
    have hsp : 0 < m → a.spot = none ∧ a.block < W.heap.size := fun hm => by
      obtain ⟨c, q1, _, q3⟩ := k2 0 hm
      have := hcell 0 0 c ((f c)[0]'(by omega)) q1 hm (by simp)
      rw [Nat.zero_mul] at this
      have this : W.cell? a = some _ := this
      unfold World.cell? at this
      split at this
      · rename_i _ _ _ hh
        refine ⟨?_, (Array.getElem?_eq_some_iff.1 hh).1⟩
        split at this
        · cases this
        · rename_i hs; simpa using hs
      · cases this
    let N : Nm := ⟨a.block, a.off, m * n, n⟩
    let ν : Nu := fun id => if id = 0 then some N else none
    have hνs : 0 < m → ∃ M, ν 0 = some M ∧ (none : Option Nat) = none ∧ a = M.at 0 ∧ 0 + m * M.u = M.S := fun hm =>
      ⟨N, rfl, rfl, by
        have := (hsp hm).1
        show a = ⟨a.block, a.off + 0, none⟩
        rw [Nat.add_zero, ← this], by show 0 + m * n = m * n; omega⟩
    rcases Nat.eq_zero_or_pos len with hz | hp
    · subst hz
      refine .inl ⟨ν, ⟨a, m, rfl, Nat.zero_le _, hlc, fun hm => hνs hm⟩, fun id hid => ?_, fun id => ?_, fun i j M K hij hi => ?_⟩
      · show (if id = 0 then _ else _) = none
        rw [if_neg (by simp at hid; omega)]
      · cases id <;> exact trivial
      · cases i <;> cases hi
    · refine .inr ⟨l.take len, ν, by simp [k1]; omega, ?_, fun b hb => ⟨k3 b (List.mem_of_mem_take hb), hfl b (List.mem_of_mem_take hb)⟩, ?_, fun id hid => ?_, fun id => ?_, fun i j M K hij hi => ?_⟩
      · rw [List.length_take, k1]
        omega
      · have e : (l.take len).length = len := by rw [List.length_take, k1]; omega
        rw [e]
        exact ⟨a, m, rfl, hlc, hlc, fun hm => hνs hm⟩
      · show (if id = 0 then _ else _) = none
        rw [if_neg (by simp at hid; omega)]
      · cases id with
        | succ id => exact trivial
        | zero =>
          have hall : ((l.take len).flatMap f).all flat1 = true := by
            rw [List.all_eq_true]
            intro u hu
            obtain ⟨b, _, hb⟩ := List.mem_flatMap.1 hu
            exact List.all_eq_true.1 (hfa b) u hb
          refine ⟨N, rfl, by rw [hs], (hsp (by omega)).2, (l.take len).flatMap f, ?_, fun i u hu => ?_⟩
          · have : L2 (VR1 ν) ((l.take len).flatMap f) ((l.take len).flatMap f) := (flat_L2 hall).2 rfl
            exact CR.of this (by rw [hall]; simp)
          · have hfl' : ∀ b ∈ l.take len, (f b).length = n := fun b hb => hfl b (List.mem_of_mem_take hb)
            have hi := (List.getElem?_eq_some_iff.1 hu).1
            rw [flat_len hfl', List.length_take, k1] at hi
            have hmin : min len m = len := by omega
            rw [hmin] at hi
            have hq : i / n < len := Nat.div_lt_of_lt_mul (by rw [Nat.mul_comm]; exact hi)
            have hr := Nat.mod_lt i hn
            have e1 : i = i / n * n + i % n := by rw [Nat.mul_comm]; exact (Nat.div_add_mod i n).symm
            obtain ⟨b, q1, _, q3⟩ := k2 (i / n) (by omega)
            have q1' : (l.take len)[i / n]? = some b := by rw [List.getElem?_take, if_pos hq]; exact q1
            have := flat_get hfl' (i / n) (i % n) b q1' hr
            rw [← e1, hu] at this
            have hc := hcell (i / n) (i % n) b u q1 (by omega) this.symm
            have hsn := (hsp (by omega)).1
            have : (a.add (i / n * n)).add (i % n) = N.at i := by
              show _ = (⟨a.block, a.off + i, none⟩ : Addr)
              unfold Addr.add
              have e2 : a = ⟨a.block, a.off, none⟩ := by rw [← hsn]
              by_cases c1 : i / n * n = 0
              · rw [if_pos c1]
                by_cases c2 : i % n = 0
                · rw [if_pos c2]
                  have : i = 0 := by omega
                  subst this
                  exact e2
                · rw [if_neg c2]
                  have : i % n = i := by omega
                  rw [this]
              · rw [if_neg c1]
                by_cases c2 : i % n = 0
                · rw [if_pos c2]
                  have : i / n * n = i := by omega
                  rw [this]
                · rw [if_neg c2]
                  simp only [Addr.mk.injEq, and_true, true_and]
                  omega
            rw [this] at hc
            exact hc
      · cases i <;> cases hi
theorem bulk_mem {H : Type} : ∀ {l : List (DataW H)} {d : DataW H}, d ∈ l → Rows.uptoBulk d ≤ Rows.uptoBulkAll l
  | [], d, h => by cases h
  | a :: l, d, h => by
    simp only [Rows.uptoBulkAll]
    rcases List.mem_cons.1 h with rfl | h
    · omega
    · have := bulk_mem h; omega
theorem bulk_pos {H : Type} (d : DataW H) : 1 ≤ Rows.uptoBulk d := by
  cases d with
  | lit l => cases l <;> simp [Rows.uptoBulk]
  | _ => simp [Rows.uptoBulk]
theorem bulk_len {H : Type} : ∀ (l : List (DataW H)), l.length ≤ Rows.uptoBulkAll l
  | [] => Nat.zero_le _
  | a :: l => by
    have := bulk_len l
    have := bulk_pos a
    simp only [Rows.uptoBulkAll, List.length_cons]
    omega
theorem open_strings {H : Type} {enc : TypeId × Value → H} {W : World} {held : Bool} {fuel : Nat} {v : Value} {x : DataW H × List MemPlace} (ht : DataW.trod enc Try.prog W 0 (fun _ => true) held fuel 29 [v] = some x) (hb : Rows.uptoBulk x.1 ≤ 1048576) :
    v = .slice none 0 0 ∨ (∃ ν, VR ν (.slice (some ⟨0, 0, none⟩) 0 0) v ∧ Rep Try.prog ν [.dead] W) ∨
    ∃ (l : List ByteArray) (ν : Nu), 0 < l.length ∧ l.length ≤ 1048576 ∧ (∀ a ∈ l, a.size ≤ 1048576 ∧ [Value.string a].length = 1) ∧ VR ν (.slice (some ⟨0, 0, none⟩) l.length l.length) v ∧ Rep Try.prog ν [.ro 9 (l.flatMap fun a => [.string a])] W :=
  open_rowK (f := fun a => [Value.string a]) (n := 1) (good := fun a => a.size ≤ 1048576) Try.underlying29 (by decide) (by kernel_rfl) (by kernel_rfl) (fun a => rfl) (fun d => Rows.uptoBulk d ≤ 1048576)
    (fun {fuel cs y} h hk => by
      obtain ⟨s, rfl, rfl, _⟩ := DataW.trod_string Try.underlying9 h
      refine ⟨s, rfl, rfl, ?_⟩
      have hk : s.data.toList.length + 1 ≤ 1048576 := hk
      have hz : s.data.toList.length = s.size := Array.length_toList
      omega) ht (fun elems rest hx => by
      rw [hx] at hb
      simp only [Rows.uptoBulk] at hb
      refine ⟨fun d hd => ?_, ?_⟩
      · rcases List.mem_append.1 hd with h | h
        · have := bulk_mem h; omega
        · have := bulk_mem h; omega
      · have := bulk_len elems
        have := bulk_len rest
        omega)
end Go.Proofs.Ytgbncncmoiadaaa.Ex
