/- Operations one after the other. -/
import Derived.Test.YtfjlaplhglfcaaaExO
import Derived.Tactics
namespace Go.Proofs.Ytfjlaplhglfcaaa.Ex
open Go
set_option linter.unusedVariables false
set_option linter.unusedSimpArgs false
section
variable {P : Program} {F : List Nat} {fr : Fr} {hp : Hp} {o : Oper}
theorem Post.le {ν ν' : Nu} {w w' : World} {r : Res} (h : Pre P F ν hp w) (p : Post P F ν hp w r ν' w') : Le ν ν' := fun id N hN => by
  rcases Nat.lt_or_ge id hp.length with hl | hl
  · rw [p.same id hl]; exact hN
  · rw [h.dom id hl] at hN; cases hN
theorem Rep.pre {ν : Nu} {w : World} (h : Rep P ν hp w) (F : List Nat) : Pre P F ν hp w := ⟨h.dom, fun id _ => h.blk id, fun i j N K hij _ _ => h.sep i j N K hij⟩
theorem Inv.step {w0 : World} {ν0 : Nu} {m : Nat} {ν ν' : Nu} {wr : List Nat} {w w' : World} {r : Res} (h : Inv P w0 ν0 m ν hp wr w) (hs : Shape F hp r) (hF : ∀ id, id < hp.length → id ∈ F) (p : Post P F ν hp w r ν' w') :
    Inv P w0 ν0 m ν' r.hp (r.wr ++ wr) w' := by
  have all : ∀ id, id ∈ F ∨ hp.length ≤ id := fun id => by
    rcases Nat.lt_or_ge id hp.length with hl | hl
    · exact .inl (hF id hl)
    · exact .inr hl
  have hlen := h.len
  refine ⟨⟨p.dom, fun id => p.blk id (all id), fun i j N K hij => p.sep i j N K hij (all i) (all j)⟩, Nat.le_trans h.len hs.len, fun id hid => ?_, p.os.trans h.os, p.tape.trans h.tape, p.output.trans h.output, Nat.le_trans h.size p.size, fun g hg hfr => ?_, fun id N hid hl hN => ?_⟩
  · rw [p.same id (by omega), h.same id hid]
  · have h1 := h.frame g hg fun id N hid hw hN => hfr id N hid (by simp [hw]) hN
    rw [← h1]
    refine p.frame g (Nat.lt_of_lt_of_le hg h.size) fun id N hid hN => ?_
    rcases Nat.lt_or_ge id m with hm | hm
    · rw [h.same id hm] at hN
      exact hfr id N hm (by simp [hid]) hN
    · rcases h.fresh id N hm (own_live (hs.own id hid)) hN with k | ⟨j, K, k1, k2, k3, k4⟩
      · omega
      · rw [← k4]
        exact hfr j K k1 (by simp [k2]) k3
  · rcases Nat.lt_or_ge id hp.length with hlt | hge
    · rw [p.same id hlt] at hN
      have hl2 : (hp.getD id .dead).live = true := by
        by_cases c : id ∈ r.wr
        · exact own_live (hs.own id c)
        · rw [← hs.keep id hlt c]; exact hl
      rcases h.fresh id N hid hl2 hN with k | ⟨j, K, k1, k2, k3⟩
      · exact .inl k
      · exact .inr ⟨j, K, k1, by simp [k2], k3⟩
    · rcases p.fresh id N hge hl hN with k | ⟨j, K, k1, k2, k3⟩
      · exact .inl (Nat.le_trans h.size k)
      · rcases Nat.lt_or_ge j m with hm | hm
        · rw [h.same j hm] at k2
          exact .inr ⟨j, K, hm, by simp [k1], k2, k3⟩
        · rcases h.fresh j K hm (own_live (hs.own j k1)) k2 with q | ⟨i, M, q1, q2, q3, q4⟩
          · exact .inl (by omega)
          · exact .inr ⟨i, M, q1, by simp [q2], q3, q4.trans k3⟩
theorem FrRel.le {ν ν' : Nu} {tmps : Array Value} (hl : Le ν ν') (h : FrRel ν fr tmps) : FrRel ν' fr tmps :=
  ⟨h.1, fun t v hv => let ⟨v', h1, h2⟩ := h.2 t v hv; ⟨v', h1, h2.le hl⟩⟩
theorem FrRel.put {ν : Nu} {a : Act} {v v' : Value} {d : Option Tmp} (h : FrRel ν fr a.tmps) (hv : VR ν v v') : FrRel ν (putT fr d v) (a.put d v').tmps := by
  cases d with
  | none => exact h
  | some d =>
    refine ⟨by simp [putT, Act.put, Fr.set_n, h.1], fun t u hu => ?_⟩
    simp only [putT] at hu
    simp only [Act.put]
    by_cases c : d = t
    · subst c
      obtain ⟨hd, hu⟩ := Fr.get_set _ hu
      cases hu
      exact ⟨v', by simp [← h.1, hd], hv⟩
    · rw [Fr.get_ne _ _ c] at hu
      obtain ⟨u', h1, h2⟩ := h.2 t u hu
      exact ⟨u', by rw [Array.getElem?_setIfInBounds_ne c]; exact h1, h2⟩
theorem put_defers {a : Act} {d : Option Tmp} {v : Value} : (a.put d v).defers = a.defers := by cases d <;> rfl
theorem want_sat {ops : Array Oper} : Sat (wantA ops fr o) fun b => ∀ ν (tmps : Array Value), FrRel ν fr tmps → Region.wanted o (yielded ops tmps) = b := by
  unfold wantA
  split
  · rename_i hg
    exact Sat.ret _ fun ν tmps h => by simp [Region.wanted, hg]
  · rename_i j want hg
    split
    · rename_i hd
      exact Sat.ret _ fun ν tmps h => by simp [Region.wanted, hg, yielded, hd]
    · rename_i d hd
      split
      · rename_i b hb
        refine Sat.bind_ask (Sat.ret _ fun ν tmps h => ?_)
        obtain ⟨v', h1, h2⟩ := h.2 d _ hb
        have : v' = .bool b := h2
        subst this
        simp [Region.wanted, hg, yielded, hd, h1]
      · rename_i hb
        refine Sat.ret _ fun ν tmps h => ?_
        obtain ⟨v', h1, h2⟩ := h.2 d _ hb
        obtain ⟨cs', rfl, hl⟩ := h2
        simp [Region.wanted, hg, yielded, hd, h1]
      · exact Sat.stop
/-- What a callee's runner must do. -/
def Sound (P : Program) (call : CallF) : Prop := ∀ (F : List Nat) g args (hp : Hp), (∀ id, id ∈ argIds P hp args → id ∈ F) → Sat (call g args hp) (CallOk P F g args hp)
/-- Whatever stands for the frame and the heap: the list of operations ends as told. -/
def OpsSpec (P : Program) (all : Array Oper) (os : List Oper) (fr : Fr) (hp : Hp) (wr : List Nat) (fr' : Fr) (hp' : Hp) (wr' : List Nat) : Prop :=
  ∀ w0 ν0 m ν wx (a : Act) w (Q : Exit → Act → World → Prop), Inv P w0 ν0 m ν hp (wr ++ wx) w → FrRel ν fr a.tmps →
    (∀ ν' (a' : Act) w', Inv P w0 ν0 m ν' hp' (wr' ++ wx) w' → FrRel ν' fr' a'.tmps → a'.defers = a.defers → Q .normal a' w') → wpList P all Q os a w
theorem ops_sat {call : CallF} (hN : Named P) (hcall : Sound P call) {all : Array Oper} : ∀ (os : List Oper) (fr : Fr) (hp : Hp) (wr : List Nat) (st : List Step),
    Sat (opsA P call all os fr hp wr st) fun r => OpsSpec P all os fr hp wr r.1 r.2.1 r.2.2.1
  | [], fr, hp, wr, st => Sat.ret _ fun w0 ν0 m ν wx a w Q hi hfr hQ => hQ ν a w hi hfr rfl
  | o :: os, fr, hp, wr, st => by
    unfold opsA
    refine Sat.bind want_sat fun b hb => ?_
    split
    · rename_i hbt
      subst hbt
      have hop : Sat (opS P call fr hp o) (OpOk P (List.range hp.length ++ footA P fr hp o) fr hp o) :=
        opS_sat hN (fun g args hids => hcall _ g args hp hids) fun id hid => List.mem_append.2 (.inr hid)
      refine Sat.bind hop fun r hr => (ops_sat hN hcall os _ _ _ _).mono fun q hq => ?_
      intro w0 ν0 m ν wx a w Q hi hfr hQ
      unfold wpList
      rw [if_pos (hb ν a.tmps hfr)]
      refine .inl (hr.2 ν a w (fun x _ v hv => val_eval hfr hv) (hi.rep.pre _) _ _ fun ν' v' w' hp' hv' => ?_)
      have hi' := hi.step hr.1 (fun id hid => List.mem_append.2 (.inl (List.mem_range.2 hid))) hp'
      rw [← List.append_assoc] at hi'
      exact hq w0 ν0 m ν' wx _ w' Q hi' ((hfr.le (Post.le (hi.rep.pre _) hp')).put hv') fun ν2 a2 w2 k1 k2 k3 => hQ ν2 a2 w2 k1 k2 (k3.trans put_defers)
    · rename_i hbf
      have hbf : b = false := by simpa using hbf
      subst hbf
      refine (ops_sat hN hcall os _ _ _ _).mono fun q hq => ?_
      intro w0 ν0 m ν wx a w Q hi hfr hQ
      unfold wpList
      rw [if_neg (by rw [hb ν a.tmps hfr]; simp)]
      exact hq w0 ν0 m ν wx _ w Q hi (hfr.put ⟨#[], rfl, .nil⟩) fun ν2 a2 w2 k1 k2 k3 => hQ ν2 a2 w2 k1 k2 (k3.trans put_defers)
end
end Go.Proofs.Ytfjlaplhglfcaaa.Ex
