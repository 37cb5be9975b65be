/- What one operation does: appends, copies, conversions of strings. -/
import Derived.Test.YtfjlaplhglfcaaaExI
import Derived.Laws.AppendOwn
namespace Go.Proofs.Ytfjlaplhglfcaaa.Ex
open Go
set_option linter.unusedVariables false
set_option linter.unusedSimpArgs false
section
variable {P : Program} {F : List Nat} {fr : Fr} {hp : Hp} {o : Oper}
/-- What the elements of a slice or a string are. -/
structure News (P : Program) (ν : Nu) (w : World) (n : Nat) (v' : Value) (m : Nat) (cs : List Value) (fl : Bool) (cs' : List Value) : Prop where
  rel : L2 (VR1 ν) cs cs'
  flat : fl = true → cs.all flat1 = true
  len : cs.length = m * n
  lenOf : ∀ W, (Builtin.lenOf v').run P W = .ok m W
  first : ∀ W : World, W.heap = w.heap → ∀ k, k ≤ m → (Builtin.firstCells n k v').run P W = .ok (cs'.take (k * n)).toArray W
theorem CR.flat_all {ν : Nu} {e : TypeId} {l m : List Value} (h : L2 (CR P ν e) l m) (hf : flatT P 6 e = true) : l.all flat1 = true := by
  induction h with
  | nil => rfl
  | cons h _ ih => simp only [List.all_cons, h.2 hf, ih, Bool.and_self]
theorem all_slice {l : List Value} (h : l.all flat1 = true) (o n : Nat) : ((l.drop o).take n).all flat1 = true :=
  List.all_eq_true.2 fun x hx => List.all_eq_true.1 h x (List.mem_of_mem_drop (List.mem_of_mem_take hx))
theorem string_cells (s : ByteArray) (k : Nat) (h : k ≤ s.size) : ((s.extract 0 k).data.map fun b : UInt8 => Value.int .u8 b.toNat) = ((bytesOf s).take k).toArray := by
  apply Array.toList_inj.1
  unfold bytesOf
  rw [Array.toList_map, ByteArray.data_extract, Array.toList_extract]
  simp [List.extract, List.map_take]
theorem news_sat {n : Nat} {v : Value} (hF : ∀ id, id ∈ idsV v → id ∈ F) : Sat (newsA P hp n v) fun r => ∀ ν (w : World), Pre P F ν hp w → ∀ v', VR ν v v' → ∃ cs', News P ν w n v' r.1 r.2.1 r.2.2 cs' := by
  unfold newsA
  split
  · refine Sat.ret _ fun ν w hpre v' hv => ?_
    cases hv
    exact ⟨[], .nil, fun _ => rfl, by simp, fun _ => rfl, fun W _ k hk => by obtain rfl : k = 0 := by omega
                                                                             simp [Builtin.firstCells]⟩
  · rename_i b off len c
    have hbF : b ∈ F := hF b (by simp [idsV, idsVC, idsV1])
    have key : ∀ (e : TypeId) (cs : List Value), cellsAt hp b = some cs → (∀ ν (w : World), RepBlk P ν w b (hp.getD b .dead) → flatT P 6 e = true → cs.all flat1 = true) → off + len * n ≤ cs.length →
        ∀ ν (w : World), Pre P F ν hp w → ∀ v', VR ν (.slice (some ⟨b, off, none⟩) len c) v' → ∃ cs', News P ν w n v' len ((cs.drop off).take (len * n)) (flatT P 6 e) cs' := by
      intro e cs hc hfl hle ν w hpre v' hv
      obtain ⟨N, cs', h1, h3, h4⟩ := (hpre.blk b hbF).read hc
      obtain ⟨a', cap', rfl, k2, k3, k4⟩ := hv
      have hl2 := h3.len
      refine ⟨(cs'.drop off).take (len * n), h3.slice off _, fun hf => all_slice (hfl ν w (hpre.blk b hbF) hf) _ _, ?_, fun _ => rfl, fun W hW k hk => ?_⟩
      · rw [List.length_take, List.length_drop]; omega
      · have hkn : k * n ≤ len * n := Nat.mul_le_mul_right _ hk
        rw [List.take_take, Nat.min_eq_left hkn]
        by_cases hp0 : 0 < cap'
        · obtain ⟨N', m1, _, rfl, _⟩ := k4 hp0
          change ν b = some N' at m1
          rw [h1] at m1
          cases m1
          have hrow : ∀ j v, ((cs'.drop off).take (k * n))[j]? = some v → W.cell? ((N.at off).add j) = some v := by
            intro j v hj
            rw [at_add]
            rw [List.getElem?_take] at hj
            split at hj
            · rw [List.getElem?_drop] at hj
              have := h4 (off + j) v hj
              unfold World.cell? at this ⊢
              rw [hW]
              exact this
            · cases hj
          have hr := run_loadCells_list (P := P) (w := W) (N.at off) _ hrow
          have hll : ((cs'.drop off).take (k * n)).length = k * n := by
            rw [List.length_take, List.length_drop, ← hl2]; omega
          rw [hll] at hr
          exact hr
        · obtain rfl : k = 0 := by omega
          simp [Builtin.firstCells, loadCells, loadCellsFrom]
    split
    · rename_i e cs he
      refine Sat.bind_chk fun hc => Sat.ret _ (key e cs (by unfold cellsAt; rw [he]) ?_ (by simpa using hc))
      intro ν w hr hf
      rw [he] at hr
      obtain ⟨g, cur, lo, hi, _, _, _, _, h5⟩ := hr
      exact CR.flat_all h5 hf
    · rename_i e cs he
      refine Sat.bind_chk fun hc => Sat.ret _ (key e cs (by unfold cellsAt; rw [he]) ?_ (by simpa using hc))
      intro ν w hr hf
      rw [he] at hr
      obtain ⟨N, _, _, _, cs', h5, _⟩ := hr
      exact CR.flat_all h5 hf
    · exact Sat.stop
  · rename_i s
    refine Sat.bind_chk fun hn => Sat.ret _ fun ν w hpre v' hv => ?_
    simp only [beq_iff_eq] at hn
    subst hn
    cases hv
    have hfl : (bytesOf s).all flat1 = true := List.all_eq_true.2 fun x hx => by
      unfold bytesOf at hx
      obtain ⟨b, _, rfl⟩ := List.mem_map.1 hx
      rfl
    refine ⟨bytesOf s, (flat_L2 hfl).2 rfl, fun _ => hfl, by simp [bytesOf], fun _ => rfl, fun W _ k hk => ?_⟩
    simp only [Builtin.firstCells, Sem.run_pure]
    rw [string_cells s k hk, Nat.mul_one]
  · exact Sat.stop
theorem modify_push {α : Type} (l : Array α) (x : α) (f : α → α) : (l.push x).modify l.size f = l.push (f x) := by
  apply Array.ext_getElem?
  intro i
  rw [Array.getElem?_modify, Array.getElem?_push, Array.getElem?_push]
  by_cases c : i = l.size
  · subst c; simp
  · rw [if_neg c, if_neg c, if_neg (fun e => c e.symm)]
theorem toBytes_run {e : TypeId} (s : ByteArray) (w : World) : ∃ cap w', s.size ≤ cap ∧ (Conv.stringToBytes e s).run P w = .ok (.slice (some ⟨w.heap.size, 0, none⟩) s.size cap) w' ∧
    w'.heap = w.heap.push (.cells (s.data.map (fun b : UInt8 => Value.int .u8 b.toNat) ++ Array.replicate (cap - s.size) (.int .u8 0)) e (cap, cap + 1)) ∧ w'.os = w.os ∧ w'.tape = w.tape ∧ w'.output = w.output := by
  have hge := grownCap_ge w s.size 0 e
  have hsz : (s.data.map (fun b : UInt8 => Value.int .u8 b.toNat) ++ Array.replicate (grownCap w s.size 0 e - s.size) (Value.int .u8 0)).size = grownCap w s.size 0 e := by
    simp
    have : s.data.size = s.size := rfl
    omega
  have hc : (Question.appendCap s.size 0 e).cut (w.tape w.drawn (.appendCap s.size 0 e)) = grownCap w s.size 0 e := rfl
  refine ⟨grownCap w s.size 0 e, ({ w with drawn := w.drawn + 1, heap := w.heap.push (.cells (s.data.map (fun b : UInt8 => Value.int .u8 b.toNat) ++ Array.replicate (grownCap w s.size 0 e - s.size) (.int .u8 0)) e) } : World).freeze ⟨w.heap.size, grownCap w s.size 0 e, none⟩ 1, hge, ?_, ?_, rfl, rfl, rfl⟩
  · simp only [Conv.stringToBytes, Sem.run_bind, run_choose, Question.forced, Bool.false_eq_true, if_false, Result.andThen_ok, hc, newRow_run, markStringish, run_shape, World.shape?, push_new, hsz, run_freeze, Sem.run_pure]
  · simp only [World.freeze]
    rw [if_neg (by omega)]
    simp only
    rw [modify_push]
    simp
theorem conv_sat {src dst : TypeId} {x : Operand} {v : Value} (ho : o.op = .convert src dst x) (hv : val fr x = some v) (hF : ∀ id, id ∈ idsV v → id ∈ F) : Sat (convA P hp src dst v) (OpOk P F fr hp o) := by
  unfold convA
  split
  · rename_i k0 k k1 n h1 h2
    refine Sat.ret _ (OpOk.pure fun ν a w he _ => ⟨_, ?_, rfl⟩)
    have hx : a.eval x = .int k1 n := he x (by simp [ho, Op.operands]) _ hv
    simp [execOp, ho, hx, convert, run_und h1, run_und h2, Conv.intToInt]
  · rename_i s h1 h2
    refine Sat.ret _ (OpOk.pure fun ν a w he _ => ⟨.string s, ?_, rfl⟩)
    have hx : a.eval x = .string s := he x (by simp [ho, Op.operands]) _ hv
    simp [execOp, ho, hx, convert, run_und h1, run_und h2]
  · rename_i e al l c h1 h2
    split
    · rename_i h3
      refine Sat.bind (news_sat hF) fun news hn => Sat.bind_chk fun hi => Sat.ret _ (OpOk.pure fun ν a w he hpre => ⟨_, ?_, rfl⟩)
      obtain ⟨cs', N⟩ := hn ν w hpre _ (he x (by simp [ho, Op.operands]) _ hv)
      have hint : ∀ (l : List Value), l.all (isInt .u8) = true → ∃ ns : List Int, l = ns.map (Value.int .u8) := by
        intro l
        induction l with
        | nil => intro _; exact ⟨[], rfl⟩
        | cons y l ih =>
          intro h
          simp only [List.all_cons, Bool.and_eq_true] at h
          obtain ⟨ns, rfl⟩ := ih h.2
          cases y with
          | int k n => simp only [isInt, beq_iff_eq] at h; obtain ⟨rfl, _⟩ := h; exact ⟨n :: ns, rfl⟩
          | _ => simp [isInt] at h
      obtain ⟨ns, hns⟩ := hint _ hi
      have hfl : news.2.1.all flat1 = true := by rw [hns]; simp [flat1]
      have hcs : cs' = news.2.1 := (flat_L2 hfl).1 N.rel
      subst hcs
      have hstr : ∀ (ns : List Int) (r : ByteArray), ns.foldl (fun r n => r.push (UInt8.ofNat n.toNat)) r = ⟨r.data ++ (ns.map fun n => UInt8.ofNat n.toNat).toArray⟩ := by
        intro ns
        induction ns with
        | nil => intro r; simp
        | cons n ns ih =>
          intro r
          rw [List.foldl_cons, ih]
          congr 1
          apply Array.toList_inj.1
          simp [ByteArray.push]
      have hx := he x (by simp [ho, Op.operands]) _ hv
      cases al with
      | none =>
        have hx' : l = 0 ∧ c = 0 ∧ a.eval x = .slice none 0 0 := by
          cases l <;> cases c <;> simp [VR, VRC, VR1, VR0] at hx
          exact ⟨rfl, rfl, hx⟩
        obtain ⟨rfl, rfl, hx'⟩ := hx'
        have hm := N.lenOf w
        have hm0 : news.1 = 0 := by
          rw [hx'] at hm
          simp [Builtin.lenOf] at hm
          exact hm.symm
        have : news.2.1 = [] := List.length_eq_zero_iff.1 (by rw [N.len, hm0])
        rw [this]
        simp [execOp, ho, hx', convert, run_und h1, run_und h2, run_und h3, Conv.bytesToString]
        rfl
      | some ad =>
        obtain ⟨a', cap', hx', k2, k3, k4⟩ := hx
        have hm := N.lenOf w
        have hm0 : news.1 = l := by
          rw [hx'] at hm
          simp [Builtin.lenOf] at hm
          exact hm.symm
        have hld := N.first w rfl l (by omega)
        rw [hx'] at hld
        simp only [Builtin.firstCells, Nat.mul_one] at hld
        have htk : news.2.1.take l = news.2.1 := List.take_of_length_le (by rw [N.len]; omega)
        rw [htk, hns] at hld
        have hr := run_bytesToString w a' l cap' ns hld
        have hc := run_convert_bytes_string w src dst e (some a') l cap' h1 h3 h2
        simp only [execOp, ho, hx', Sem.run_bind, hc, hr, Result.andThen_ok, Sem.run_pure]
        rw [hstr, hns]
        simp [unbyte, intOf, Function.comp_def]
    · exact Sat.stop
  · rename_i e s h1 h2
    split
    · rename_i h3
      refine Sat.bind_chk fun hc => Sat.ret _ ⟨Shape.new, fun ν a w he hpre next Q hnx => ?_⟩
      simp only [Bool.and_eq_true, beq_iff_eq, decide_eq_true_eq, most] at hc
      obtain ⟨hc1, hc2⟩ := hc
      have hx : a.eval x = .string s := he x (by simp [ho, Op.operands]) _ hv
      obtain ⟨cap, w', hge, hr, hh, h4, h5, h6⟩ := toBytes_run (P := P) (e := e) s w
      have hrun : (execOp a.eval o).run P w = .ok (.value (.slice (some ⟨w.heap.size, 0, none⟩) s.size cap)) w' := by
        simp only [execOp, ho, hx, convert, Sem.run_bind, run_und h1, run_und h2, Result.andThen_ok, run_und h3, hr, Sem.run_pure]
      have hds : s.data.size = s.size := rfl
      have hsz : (s.data.map (fun b : UInt8 => Value.int .u8 b.toNat) ++ Array.replicate (cap - s.size) (Value.int .u8 0)).size = cap := by
        simp
        omega
      have hfl : (bytesOf s).all flat1 = true := List.all_eq_true.2 fun x hx => by
        unfold bytesOf at hx
        obtain ⟨b, _, rfl⟩ := List.mem_map.1 hx
        rfl
      have htk : (s.data.map (fun b : UInt8 => Value.int .u8 b.toNat) ++ Array.replicate (cap - s.size) (Value.int .u8 0)).toList.take (bytesOf s).length = bytesOf s := by
        unfold bytesOf
        rw [Array.toList_append, Array.toList_map]
        exact List.take_left
      refine wp_value hrun (hnx _ _ _ (Post.new (w' := w') (cs := bytesOf s) hpre hh h4 h5 h6 (fun o ho' hh' => by rw [hsz] at ho'; omega) (by rw [hsz]; simp [bytesOf]; omega) (by
        rw [htk]
        exact CR.of ((flat_L2 hfl).2 rfl) (by rw [hfl]; simp)) _) ?_)
      exact named_slice hge hge (by rw [hc2, hsz]; simp)
    · exact Sat.stop
  · exact Sat.stop
end
end Go.Proofs.Ytfjlaplhglfcaaa.Ex
