/- VoteBetween: the law in numbers, and its loop. -/
import Derived.Test.YtfjlaplhglfcaaaBetwC
import Derived.Test.YtfjlaplhglfcaaaTicks
namespace Go.Proofs.Ytfjlaplhglfcaaa.Ex
open Go
set_option linter.unusedVariables false
theorem valid_zero {V : F.V} (hV : V.fit) (u : F.U) : F.valid 0 V u = F.spoke u := by
  have h : ∀ {o : Bool} {a : Int}, F.age a → (F.na o a ≤ 0 ↔ o = true) := fun {o a} ha => by
    unfold F.age at ha
    cases o with
    | true => simp [F.na]
    | false =>
      simp only [F.na, F.up, Bool.false_eq_true, if_false, iff_false]
      split <;> omega
  unfold F.valid F.spoke
  simp only [h hV.a0, h hV.a1, h hV.a2]
  cases u.o0 <;> cases u.o1 <;> cases u.o2 <;> rfl
theorem between_law {V : F.V} {u : F.U} (hV : V.fit) (hg : F.U.good u) : F.ok 0 V u = decide (F.n u > 0) ∧ (F.ok 0 V u = true → F.inS (F.x 0 V u) (F.lo u) (F.hi u) = true) ∧ (F.ok 0 V u = false → F.x 0 V u = 0) := by
  obtain ⟨g0, g1, g2⟩ := hg
  unfold F.ok F.x F.n F.lo F.hi
  rw [valid_zero hV]
  have one : ∀ x, F.inS (F.xOf [x]) (F.loOf [x]) (F.hiOf [x]) = true := fun x => by
    rw [inS_iff]; simp [F.xOf, F.loOf, F.hiOf]
  have two : ∀ {x y}, F.i64 x → F.i64 y → F.inS (F.xOf [x, y]) (F.loOf [x, y]) (F.hiOf [x, y]) = true := fun {x y} hx hy => by
    rw [inS_iff]
    simp only [F.xOf, F.loOf, F.hiOf, List.foldl_cons, List.foldl_nil]
    refine midw_in hx hy ⟨?_, ?_⟩ ⟨?_, ?_⟩ <;> split <;> omega
  have thr : ∀ x y z, F.inS (F.xOf [x, y, z]) (F.loOf [x, y, z]) (F.hiOf [x, y, z]) = true := fun x y z => by
    rw [inS_iff]
    simp only [F.xOf, F.loOf, F.hiOf, List.foldl_cons, List.foldl_nil]
    refine mid3_in (.inl ⟨⟨?_, ?_⟩, ?_, ?_⟩) <;> (repeat' split) <;> omega
  unfold F.spoke
  cases u.o0 <;> cases u.o1 <;> cases u.o2 <;> simp [F.okOf, one, two g0 g1, two g0 g2, two g1 g2, thr] <;> first | rfl | omega | (simp [F.xOf]; done) | skip
theorem cells_get : ∀ {T : List F.U} {j : Nat} {u : F.U}, T[j]? = some u → F.at (T.flatMap F.U.cells) (j : Int) u := by
  intro T j u h b hb
  have := cells_at h
  rw [Int.toNat_natCast, ← this]
  rw [List.getD_eq_getElem?_getD, List.getD_eq_getElem?_getD, List.getElem?_take, if_pos hb, List.getElem?_drop]
theorem betw_one {T : List F.U} {V : F.V} (hV : V.fit) (hn : T.length ≤ 2932031007403) {j : Nat} {u : F.U} (hu : T[j]? = some u) (hg : F.U.good u) :
    CodeSpec Try.prog 1 betw_loop (frBetw j T.length) [.ro 38 (T.flatMap F.U.cells), V.blk 0 0] ⟨.normal, frBetw (j + 1) T.length, [.ro 38 (T.flatMap F.U.cells), (F.step 0 0 V u).blk 0 0], []⟩ := by
  have hj := (List.getElem?_eq_some_iff.1 hu).1
  have hji : (j : Int) < (T.length : Int) := by omega
  obtain ⟨l1, l2, l3⟩ := between_law hV hg
  have ok := Out.le
  apply betw_round j T.length (T.flatMap F.U.cells) V u hV hn (cells_len T) ⟨by omega, by omega⟩ (fun _ => cells_get hu) (fun _ => by
    have := cells_at hu
    rw [Nat.zero_add, Int.toNat_natCast, this]; rfl)
  · intro _ h; rw [l1] at h; simp at h
  · intro _ _ h2 h3; rw [l2 h2] at h3; cases h3
  · intro _ _ h2 _ h4; rw [h2] at h4; cases h4
  · intro _ _ h2 _ h4; rw [h2] at h4; cases h4
  · intro _ _ _ _ _; exact ⟨rfl, rfl, rfl, fun j hj => hj⟩
  · intro _ _ h2 _ h4; exact absurd (l3 (by simpa using h2)) h4
  · intro _ _ _ _ _; exact ⟨rfl, rfl, rfl, fun j hj => hj⟩
  · intro _ _ h2 h3; exact absurd (by simpa using h2) h3
  · intro h; exact absurd hji h
theorem betw_rounds {T : List F.U} {V : F.V} (hV : V.fit) (hn : T.length ≤ 2932031007403) (hg : ∀ u ∈ T, F.U.good u) : ∀ (k j : Nat), j ≤ T.length → T.length - j = k →
    LoopSpec Try.prog 1 betw_loop (frBetw j T.length) [.ro 38 (T.flatMap F.U.cells), (F.hist 0 0 V (T.take j)).blk 0 0]
      ⟨.exit 0, frBetw T.length T.length, [.ro 38 (T.flatMap F.U.cells), (F.hist 0 0 V T).blk 0 0], []⟩
  | 0, j, h1, hk => by
    have : j = T.length := by omega
    subst this
    rw [List.take_length]
    refine .last (o := ⟨.exit 0, frBetw T.length T.length, [.ro 38 (T.flatMap F.U.cells), (F.hist 0 0 V T).blk 0 0], []⟩) ?_ (by intro h; cases h)
    apply betw_round T.length T.length (T.flatMap F.U.cells) _ ⟨false, 0, false, 0, false, 0⟩ (hist_fit hV) hn (cells_len T) ⟨by omega, by omega⟩ (fun h => absurd h (by omega)) (fun h => absurd h (by omega))
    all_goals first
      | (intro _; exact ⟨rfl, rfl, rfl, fun j hj => hj⟩)
      | (intro h; exact absurd h (by omega))
  | k + 1, j, h1, hk => by
    obtain ⟨u, hu⟩ : ∃ u, T[j]? = some u := ⟨T[j]'(by omega), by simp⟩
    have next := betw_rounds (V := V) hV hn hg k (j + 1) (by omega) (by omega)
    rw [hist_take hu] at next
    exact .more (betw_one (hist_fit hV) hn hu (hg u (List.mem_of_getElem? hu))) rfl next (fun j hj => by cases hj)
def betwSum (T : List F.U) (fr : Fr) (hp : Hp) : Out := match hp with
  | [b0, .own _ [_, _, .int _ v0, .int _ v1, .int _ v2, .int _ a0, .int _ a1, .int _ a2, .int _ s]] => ⟨.exit 0, frBetw T.length T.length, [b0, (F.hist 0 0 ⟨v0, v1, v2, a0, a1, a2, s⟩ T).blk 0 0], []⟩
  | _ => ⟨.ret, fr, [], []⟩
theorem betw_told {T : List F.U} {V : F.V} (hV : V.fit) (hn : T.length ≤ 2932031007403) (hg : ∀ u ∈ T, F.U.good u) :
    CodeSpec Try.prog 1 betw_loopC (frBetw 0 T.length) [.ro 38 (T.flatMap F.U.cells), V.blk 0 0] ⟨.exit 0, frBetw T.length T.length, [.ro 38 (T.flatMap F.U.cells), (F.hist 0 0 V T).blk 0 0], []⟩ :=
  (betw_rounds (V := V) (T := T) hV hn hg T.length 0 (Nat.zero_le _) (by omega)).code
end Go.Proofs.Ytfjlaplhglfcaaa.Ex
