/- What one operation does: appends, copies, conversions of strings. -/
import Derived.Test.YtgbncncmoiadaaaExAA
import Derived.Laws.AppendOwn
import Derived.Tactics
import Derived.LoopN
namespace Go.Proofs.Ytgbncncmoiadaaa.Ex
open Go
set_option linter.unusedVariables false
set_option linter.unusedSimpArgs false
section
variable {P : Program} {F : List Nat} {fr : Fr} {hp : Hp} {o : Oper}
/-- What the elements of a slice or a string are. -/
structure News (P : Program) (ν : Nu) (w : World) (n : Nat) (v' : Value) (m : Nat) (cs : List Value) (fl : Bool) (cs' : List Value) : Prop where
  rel : L2 (VR1 ν) cs cs'
  flat : fl = true → cs.all flat1 = true
  len : cs.length = m * n
  lenOf : ∀ W, (Builtin.lenOf v').run P W = .ok m W
  first : ∀ W : World, W.heap = w.heap → ∀ k, k ≤ m → (Builtin.firstCells n k v').run P W = .ok (cs'.take (k * n)).toArray W
theorem CR.flat_all {ν : Nu} {e : TypeId} {l m : List Value} (h : L2 (CR P ν e) l m) (hf : flatT P 6 e = true) : l.all flat1 = true := by
  induction h with
  | nil => rfl
  | cons h _ ih => simp only [List.all_cons, h.2 hf, ih, Bool.and_self]
theorem all_slice {l : List Value} (h : l.all flat1 = true) (o n : Nat) : ((l.drop o).take n).all flat1 = true :=
  List.all_eq_true.2 fun x hx => List.all_eq_true.1 h x (List.mem_of_mem_drop (List.mem_of_mem_take hx))
theorem string_cells (s : ByteArray) (k : Nat) (h : k ≤ s.size) : ((s.extract 0 k).data.map fun b : UInt8 => Value.int .u8 b.toNat) = ((bytesOf s).take k).toArray := by
  apply Array.toList_inj.1
  unfold bytesOf
  rw [Array.toList_map, ByteArray.data_extract, Array.toList_extract]
  simp [List.extract, List.map_take]
theorem news_sat {n : Nat} {v : Value} (hF : ∀ id, id ∈ idsV v → id ∈ F) : Sat (newsA P hp n v) fun r => ∀ ν (w : World), Pre P F ν hp w → ∀ v', VR ν v v' → ∃ cs', News P ν w n v' r.1 r.2.1 r.2.2 cs' := by
  unfold newsA
  split
  · refine Sat.ret _ fun ν w hpre v' hv => ?_
    cases hv
    exact ⟨[], .nil, fun _ => rfl, by simp, fun _ => rfl, fun W _ k hk => by obtain rfl : k = 0 := by omega
                                                                             simp [Builtin.firstCells]⟩
  · rename_i b off len c
    have hbF : b ∈ F := hF b (by simp [idsV, idsVC, idsV1])
    have key : ∀ (e : TypeId) (cs : List Value), cellsAt hp b = some cs → (∀ ν (w : World), RepBlk P ν w b (hp.getD b .dead) → flatT P 6 e = true → cs.all flat1 = true) → off + len * n ≤ cs.length →
        ∀ ν (w : World), Pre P F ν hp w → ∀ v', VR ν (.slice (some ⟨b, off, none⟩) len c) v' → ∃ cs', News P ν w n v' len ((cs.drop off).take (len * n)) (flatT P 6 e) cs' := by
      intro e cs hc hfl hle ν w hpre v' hv
      obtain ⟨N, cs', h1, h3, h4⟩ := (hpre.blk b hbF).read hc
      obtain ⟨a', cap', rfl, k2, k3, k4⟩ := hv
      have hl2 := h3.len
      refine ⟨(cs'.drop off).take (len * n), h3.slice off _, fun hf => all_slice (hfl ν w (hpre.blk b hbF) hf) _ _, ?_, fun _ => rfl, fun W hW k hk => ?_⟩
      · rw [List.length_take, List.length_drop]; omega
      · have hkn : k * n ≤ len * n := Nat.mul_le_mul_right _ hk
        rw [List.take_take, Nat.min_eq_left hkn]
        by_cases hp0 : 0 < cap'
        · obtain ⟨N', m1, _, rfl, _⟩ := k4 hp0
          change ν b = some N' at m1
          rw [h1] at m1
          cases m1
          have hrow : ∀ j v, ((cs'.drop off).take (k * n))[j]? = some v → W.cell? ((N.at off).add j) = some v := by
            intro j v hj
            rw [at_add]
            rw [List.getElem?_take] at hj
            split at hj
            · rw [List.getElem?_drop] at hj
              have := h4 (off + j) v hj
              unfold World.cell? at this ⊢
              rw [hW]
              exact this
            · cases hj
          have hr := run_loadCells_list (P := P) (w := W) (N.at off) _ hrow
          have hll : ((cs'.drop off).take (k * n)).length = k * n := by
            rw [List.length_take, List.length_drop, ← hl2]; omega
          rw [hll] at hr
          exact hr
        · obtain rfl : k = 0 := by omega
          simp [Builtin.firstCells, loadCells, loadCellsFrom]
    split
    · rename_i e cs he
      refine Sat.bind_chk fun hc => Sat.ret _ (key e cs (by unfold cellsAt; rw [he]) ?_ (by simpa using hc))
      intro ν w hr hf
      rw [he] at hr
      obtain ⟨g, cur, lo, hi, _, _, _, _, h5⟩ := hr
      exact CR.flat_all h5 hf
    · rename_i e cs he
      refine Sat.bind_chk fun hc => Sat.ret _ (key e cs (by unfold cellsAt; rw [he]) ?_ (by simpa using hc))
      intro ν w hr hf
      rw [he] at hr
      obtain ⟨N, _, _, _, cs', h5, _⟩ := hr
      exact CR.flat_all h5 hf
    · exact Sat.stop
  · rename_i s
    refine Sat.bind_chk fun hn => Sat.ret _ fun ν w hpre v' hv => ?_
    simp only [beq_iff_eq] at hn
    subst hn
    cases hv
    have hfl : (bytesOf s).all flat1 = true := List.all_eq_true.2 fun x hx => by
      unfold bytesOf at hx
      obtain ⟨b, _, rfl⟩ := List.mem_map.1 hx
      rfl
    refine ⟨bytesOf s, (flat_L2 hfl).2 rfl, fun _ => hfl, by simp [bytesOf], fun _ => rfl, fun W _ k hk => ?_⟩
    simp only [Builtin.firstCells, Sem.run_pure]
    rw [string_cells s k hk, Nat.mul_one]
  · exact Sat.stop
theorem modify_push {α : Type} (l : Array α) (x : α) (f : α → α) : (l.push x).modify l.size f = l.push (f x) := by
  apply Array.ext_getElem?
  intro i
  rw [Array.getElem?_modify, Array.getElem?_push, Array.getElem?_push]
  by_cases c : i = l.size
  · subst c; simp
  · rw [if_neg c, if_neg c, if_neg (fun e => c e.symm)]
theorem toBytes_run {e : TypeId} (s : ByteArray) (w : World) : ∃ cap w', s.size ≤ cap ∧ (Conv.stringToBytes e s).run P w = .ok (.slice (some ⟨w.heap.size, 0, none⟩) s.size cap) w' ∧
    w'.heap = w.heap.push (.cells (s.data.map (fun b : UInt8 => Value.int .u8 b.toNat) ++ Array.replicate (cap - s.size) (.int .u8 0)) e (cap, cap + 1)) ∧ w'.os = w.os ∧ w'.tape = w.tape ∧ w'.output = w.output := by
  have hge := grownCap_ge w s.size 0 e
  have hsz : (s.data.map (fun b : UInt8 => Value.int .u8 b.toNat) ++ Array.replicate (grownCap w s.size 0 e - s.size) (Value.int .u8 0)).size = grownCap w s.size 0 e := by
    simp
    have : s.data.size = s.size := rfl
    omega
  have hc : (Question.appendCap s.size 0 e).cut (w.tape w.drawn (.appendCap s.size 0 e)) = grownCap w s.size 0 e := rfl
  refine ⟨grownCap w s.size 0 e, ({ w with drawn := w.drawn + 1, heap := w.heap.push (.cells (s.data.map (fun b : UInt8 => Value.int .u8 b.toNat) ++ Array.replicate (grownCap w s.size 0 e - s.size) (.int .u8 0)) e) } : World).freeze ⟨w.heap.size, grownCap w s.size 0 e, none⟩ 1, hge, ?_, ?_, rfl, rfl, rfl⟩
  · simp only [Conv.stringToBytes, Sem.run_bind, run_choose, Question.forced, Bool.false_eq_true, if_false, Result.andThen_ok, hc, newRow_run, markStringish, run_shape, World.shape?, push_new, hsz, run_freeze, Sem.run_pure]
  · simp only [World.freeze]
    rw [if_neg (by omega)]
    simp only
    rw [modify_push]
    simp
theorem conv_sat {src dst : TypeId} {x : Operand} {v : Value} (ho : o.op = .convert src dst x) (hv : val fr x = some v) (hF : ∀ id, id ∈ idsV v → id ∈ F) : Sat (convA P hp src dst v) (OpOk P F fr hp o) := by
  unfold convA
  split
  · rename_i k0 k k1 n h1 h2
    refine Sat.ret _ (OpOk.pure fun ν a w he _ => ⟨_, ?_, rfl⟩)
    have hx : a.eval x = .int k1 n := he x (by simp [ho, Op.operands]) _ hv
    simp [execOp, ho, hx, convert, run_und h1, run_und h2, Conv.intToInt]
  · rename_i s h1 h2
    refine Sat.ret _ (OpOk.pure fun ν a w he _ => ⟨.string s, ?_, rfl⟩)
    have hx : a.eval x = .string s := he x (by simp [ho, Op.operands]) _ hv
    simp [execOp, ho, hx, convert, run_und h1, run_und h2]
  · rename_i e al l c h1 h2
    split
    · rename_i h3
      refine Sat.bind (news_sat hF) fun news hn => Sat.bind_chk fun hi => Sat.ret _ (OpOk.pure fun ν a w he hpre => ⟨_, ?_, rfl⟩)
      obtain ⟨cs', N⟩ := hn ν w hpre _ (he x (by simp [ho, Op.operands]) _ hv)
      have hint : ∀ (l : List Value), l.all (isInt .u8) = true → ∃ ns : List Int, l = ns.map (Value.int .u8) := by
        intro l
        induction l with
        | nil => intro _; exact ⟨[], rfl⟩
        | cons y l ih =>
          intro h
          simp only [List.all_cons, Bool.and_eq_true] at h
          obtain ⟨ns, rfl⟩ := ih h.2
          cases y with
          | int k n => simp only [isInt, beq_iff_eq] at h; obtain ⟨rfl, _⟩ := h; exact ⟨n :: ns, rfl⟩
          | _ => simp [isInt] at h
      obtain ⟨ns, hns⟩ := hint _ hi
      have hfl : news.2.1.all flat1 = true := by rw [hns]; simp [flat1]
      have hcs : cs' = news.2.1 := (flat_L2 hfl).1 N.rel
      subst hcs
      have hstr : ∀ (ns : List Int) (r : ByteArray), ns.foldl (fun r n => r.push (UInt8.ofNat n.toNat)) r = ⟨r.data ++ (ns.map fun n => UInt8.ofNat n.toNat).toArray⟩ := by
        intro ns
        induction ns with
        | nil => intro r; simp
        | cons n ns ih =>
          intro r
          rw [List.foldl_cons, ih]
          congr 1
          apply Array.toList_inj.1
          simp [ByteArray.push]
      have hx := he x (by simp [ho, Op.operands]) _ hv
      cases al with
      | none =>
        have hx' : l = 0 ∧ c = 0 ∧ a.eval x = .slice none 0 0 := by
          cases l <;> cases c <;> simp [VR, VRC, VR1, VR0] at hx
          exact ⟨rfl, rfl, hx⟩
        obtain ⟨rfl, rfl, hx'⟩ := hx'
        have hm := N.lenOf w
        have hm0 : news.1 = 0 := by
          rw [hx'] at hm
          simp [Builtin.lenOf] at hm
          exact hm.symm
        have : news.2.1 = [] := List.length_eq_zero_iff.1 (by rw [N.len, hm0])
        rw [this]
        simp [execOp, ho, hx', convert, run_und h1, run_und h2, run_und h3, Conv.bytesToString]
        rfl
      | some ad =>
        obtain ⟨a', cap', hx', k2, k3, k4⟩ := hx
        have hm := N.lenOf w
        have hm0 : news.1 = l := by
          rw [hx'] at hm
          simp [Builtin.lenOf] at hm
          exact hm.symm
        have hld := N.first w rfl l (by omega)
        rw [hx'] at hld
        simp only [Builtin.firstCells, Nat.mul_one] at hld
        have htk : news.2.1.take l = news.2.1 := List.take_of_length_le (by rw [N.len]; omega)
        rw [htk, hns] at hld
        have hr := run_bytesToString w a' l cap' ns hld
        have hc := run_convert_bytes_string w src dst e (some a') l cap' h1 h3 h2
        simp only [execOp, ho, hx', Sem.run_bind, hc, hr, Result.andThen_ok, Sem.run_pure]
        rw [hstr, hns]
        simp [unbyte, intOf, Function.comp_def]
    · exact Sat.stop
  · rename_i e s h1 h2
    split
    · rename_i h3
      refine Sat.bind_chk fun hc => Sat.ret _ ⟨Shape.new, fun ν a w he hpre next Q hnx => ?_⟩
      simp only [Bool.and_eq_true, beq_iff_eq, decide_eq_true_eq, most] at hc
      obtain ⟨hc1, hc2⟩ := hc
      have hx : a.eval x = .string s := he x (by simp [ho, Op.operands]) _ hv
      obtain ⟨cap, w', hge, hr, hh, h4, h5, h6⟩ := toBytes_run (P := P) (e := e) s w
      have hrun : (execOp a.eval o).run P w = .ok (.value (.slice (some ⟨w.heap.size, 0, none⟩) s.size cap)) w' := by
        simp only [execOp, ho, hx, convert, Sem.run_bind, run_und h1, run_und h2, Result.andThen_ok, run_und h3, hr, Sem.run_pure]
      have hds : s.data.size = s.size := rfl
      have hsz : (s.data.map (fun b : UInt8 => Value.int .u8 b.toNat) ++ Array.replicate (cap - s.size) (Value.int .u8 0)).size = cap := by
        simp
        omega
      have hfl : (bytesOf s).all flat1 = true := List.all_eq_true.2 fun x hx => by
        unfold bytesOf at hx
        obtain ⟨b, _, rfl⟩ := List.mem_map.1 hx
        rfl
      have htk : (s.data.map (fun b : UInt8 => Value.int .u8 b.toNat) ++ Array.replicate (cap - s.size) (Value.int .u8 0)).toList.take (bytesOf s).length = bytesOf s := by
        unfold bytesOf
        rw [Array.toList_append, Array.toList_map]
        exact List.take_left
      refine wp_value hrun (hnx _ _ _ (Post.new (w' := w') (cs := bytesOf s) hpre hh h4 h5 h6 (fun o ho' hh' => by rw [hsz] at ho'; omega) (by rw [hsz]; simp [bytesOf]; omega) (by
        rw [htk]
        exact CR.of ((flat_L2 hfl).2 rfl) (by rw [hfl]; simp)) _) ?_)
      exact named_slice hge hge (by rw [hc2, hsz]; simp)
    · exact Sat.stop
  · exact Sat.stop
end
end Go.Proofs.Ytgbncncmoiadaaa.Ex
/- What one operation does: append. -/
namespace Go.Proofs.Ytgbncncmoiadaaa.Ex
open Go
set_option linter.unusedVariables false
set_option linter.unusedSimpArgs false
section
variable {P : Program} {F : List Nat} {fr : Fr} {hp : Hp} {o : Oper}
theorem grow_run {ts : Array TypeId} {t t2 e ty : TypeId} {i : TypeInfo} {z : Value} (h0 : ts[0]? = some t) (h1 : ts[1]? = some t2) (ht : P.underlying t = some (.slice e))
    (h2 : (∃ e2, P.underlying t2 = some (.slice e2)) ∨ P.underlying t2 = some .string) (hi : P.info? e = some i) (hz : i.zero = some z) {base : Option Addr} {l cap n : Nat} {x : Value} {olds news : List Value} (w : World)
    (hlen : ∀ W, (Builtin.lenOf x).run P W = .ok n W) (hold : ∀ W : World, W.heap = w.heap → (Builtin.firstCells i.size l (.slice base l cap)).run P W = .ok olds.toArray W)
    (hnew : ∀ W : World, W.heap = w.heap → (Builtin.firstCells i.size n x).run P W = .ok news.toArray W) (hg : cap < l + n) (h63 : ((l + n : Nat) : Int) ≤ 9223372036854775807) (hfit : Builtin.nextslicecap (l + n) cap * i.bytes ≤ 281474976710656) :
    (Builtin.append_ ts ty #[.slice base l cap, x]).run P w = .ok (.slice (some ⟨w.heap.size, 0, none⟩) (l + n) (grownCap w (l + n) cap e))
      (w.drew.alloc (.cells (olds.toArray ++ news.toArray ++ Builtin.zeroCells z.cells (grownCap w (l + n) cap e - (l + n))) e)) := by
  have hn : ¬ (l + n ≤ cap) := by omega
  have h63' : ¬ (9223372036854775807 < ((l : Int) + (n : Int))) := by omega
  have h48' : ¬ (281474976710656 < Builtin.nextslicecap (l + n) cap * i.bytes) := by omega
  have hf := hnew w.drew rfl
  have hfo := hold w.drew rfl
  rcases h2 with ⟨e2, h2⟩ | h2
  · simp [Builtin.append_, h0, h1, run_underlying ht, run_underlying h2, sizeOf, typeInfo, zeroValue, hi, hz, hlen, hn, h63', h48', Question.forced, hf, hfo, newRow, grownCap]
    congr 2
    apply Array.ext'
    simp [List.append_assoc]
  · simp [Builtin.append_, h0, h1, run_underlying ht, run_underlying h2, sizeOf, typeInfo, zeroValue, hi, hz, hlen, hn, h63', h48', Question.forced, hf, hfo, newRow, grownCap]
    congr 2
    apply Array.ext'
    simp [List.append_assoc]
theorem room_run {ts : Array TypeId} {t t2 e ty : TypeId} {i : TypeInfo} (h0 : ts[0]? = some t) (h1 : ts[1]? = some t2) (ht : P.underlying t = some (.slice e))
    (h2 : (∃ e2, P.underlying t2 = some (.slice e2)) ∨ P.underlying t2 = some .string) (hi : P.info? e = some i) {a : Addr} {l cap n : Nat} {x : Value} {news : List Value} {w w' : World}
    (hlen : ∀ W, (Builtin.lenOf x).run P W = .ok n W) (hnew : (Builtin.firstCells i.size n x).run P w = .ok news.toArray w) (hg : l + n ≤ cap)
    (hst : (storeCells (a.add (l * i.size)) news).run P w = .ok () w') :
    (Builtin.append_ ts ty #[.slice (some a) l cap, x]).run P w = .ok (.slice (some a) (l + n) cap) w' := by
  rcases h2 with ⟨e2, h2⟩ | h2
  · simp [Builtin.append_, h0, h1, run_underlying ht, run_underlying h2, sizeOf, typeInfo, hi, hlen, hg, hnew, hst]
  · simp [Builtin.append_, h0, h1, run_underlying ht, run_underlying h2, sizeOf, typeInfo, hi, hlen, hg, hnew, hst]
theorem none_run {ts : Array TypeId} {t t2 e ty : TypeId} {i : TypeInfo} (h0 : ts[0]? = some t) (h1 : ts[1]? = some t2) (ht : P.underlying t = some (.slice e))
    (h2 : (∃ e2, P.underlying t2 = some (.slice e2)) ∨ P.underlying t2 = some .string) (hi : P.info? e = some i) {x : Value} {news : List Value} {w : World}
    (hlen : ∀ W, (Builtin.lenOf x).run P W = .ok 0 W) (hnew : (Builtin.firstCells i.size 0 x).run P w = .ok news.toArray w) :
    (Builtin.append_ ts ty #[.slice none 0 0, x]).run P w = .ok (.slice none 0 0) w := by
  rcases h2 with ⟨e2, h2⟩ | h2
  · simp [Builtin.append_, h0, h1, run_underlying ht, run_underlying h2, sizeOf, typeInfo, hi, hlen, hnew]
  · simp [Builtin.append_, h0, h1, run_underlying ht, run_underlying h2, sizeOf, typeInfo, hi, hlen, hnew]
theorem put_end : ∀ (vs cs : List Value), cs.length ≤ cs.length → ∀ tl : List Value, vs.length ≤ tl.length → (put (cs ++ tl) cs.length vs).take (cs.length + vs.length) = cs ++ vs
  | [], cs, _, tl, _ => by simp [put]
  | v :: vs, cs, _, [], h => by simp at h
  | v :: vs, cs, _, x :: tl, h => by
    have ih := put_end vs (cs ++ [v]) (Nat.le_refl _) tl (by simpa using h)
    have e1 : (cs ++ x :: tl).set cs.length v = cs ++ [v] ++ tl := by
      rw [List.set_append_right _ _ (Nat.le_refl _)]
      simp
    rw [put, e1]
    have e2 : cs.length + (v :: vs).length = (cs ++ [v]).length + vs.length := by simp; omega
    rw [e2]
    have e3 : cs.length + 1 = (cs ++ [v]).length := by simp
    rw [e3, ih]
    simp
theorem put_at_end (vs l : List Value) (n : Nat) (h : n + vs.length ≤ l.length) : (put l n vs).take (n + vs.length) = l.take n ++ vs := by
  have h1 : (l.take n).length = n := by rw [List.length_take]; omega
  have := put_end vs (l.take n) (Nat.le_refl _) (l.drop n) (by rw [List.length_drop]; omega)
  rw [h1, List.take_append_drop] at this
  exact this
theorem append_sat {ts as : Array TypeId} {xs : Array Operand} {t t2 : TypeId} {s v : Value} (ho : o.op = .call { callee := .builtin .append, args := xs, argTypes := ts }) (h0 : ts[0]? = some t) (h1 : ts[1]? = some t2)
    (h2 : (∃ e2, P.underlying t2 = some (.slice e2)) ∨ P.underlying t2 = some .string) (hvs : vals fr xs.toList = some [s, v]) (hFs : ∀ id, id ∈ idsV s → id ∈ F) (hF : ∀ id, id ∈ idsV v → id ∈ F) : Sat (appendA P hp t s v) (OpOk P F fr hp o) := by
  obtain ⟨x, y, rfl, hx, hy⟩ := vals_two hvs
  unfold appendA
  split
  · rename_i e ht
    refine Sat.bind_lift fun i hi => Sat.bind_lift fun z hz => Sat.bind (news_sat hF) fun news hn => Sat.bind_chk fun hc => ?_
    simp only [Bool.and_eq_true, beq_iff_eq, decide_eq_true_eq] at hc
    obtain ⟨⟨⟨hzs, hi0⟩, hb0⟩, hfl⟩ := hc
    have hsz : sz P e = some i.size := by unfold sz; rw [hi]; rfl
    have hex : ∀ (a : Act) (w w' : World) (r : Value), (∀ ty, (Builtin.append_ ts ty #[a.eval x, a.eval y]).run P w = .ok r w') → (execOp a.eval o).run P w = .ok (.value r) w' := by
      intro a w w' r hr
      simp only [execOp, ho, resolve, invoke, builtin, Sem.run_bind, Result.andThen_ok, Sem.run_pure, List.map_toArray, List.map_cons, List.map_nil, hr]
    split
    · refine Sat.bind_chk fun hm => Sat.bind_ask ?_
      simp only [Bool.and_eq_true, decide_eq_true_eq, most] at hm
      obtain ⟨hm1, hm2⟩ := hm
      replace hm1 : news.1 * i.bytes ≤ 140737488351232 := of_decide_eq_true hm1
      replace hm2 : news.1 ≤ 140737488351232 := of_decide_eq_true hm2
      split
      · rename_i hb
        replace hb := of_decide_eq_true hb
        refine Sat.ret _ (OpOk.pure fun ν a w he hpre => ⟨.slice none 0 0, ?_, rfl⟩)
        obtain ⟨cs', N⟩ := hn ν w hpre _ (he y (by simp [ho, Op.operands, Call.operands]) _ hy)
        have ex : a.eval x = .slice none 0 0 := he x (by simp [ho, Op.operands, Call.operands]) _ hx
        have hl := N.lenOf
        rw [hb] at hl
        exact hex a w w _ fun ty => by rw [ex]; exact none_run h0 h1 ht h2 hi hl (N.first w rfl 0 (Nat.zero_le _))
      · rename_i hb
        have hb' : news.1 ≠ 0 := fun h => hb (by simp [h])
        refine Sat.ret _ ⟨Shape.new, fun ν a w he hpre next Q hnx => ?_⟩
        obtain ⟨cs', N⟩ := hn ν w hpre _ (he y (by simp [ho, Op.operands, Call.operands]) _ hy)
        have ex : a.eval x = .slice none 0 0 := he x (by simp [ho, Op.operands, Call.operands]) _ hx
        have hl := N.rel.len
        have htk : cs'.take (news.1 * i.size) = cs' := List.take_of_length_le (by rw [← hl, N.len]; exact Nat.le_refl _)
        have hge := grownCap_ge w (0 + news.1) 0 e
        have hrun := hex a w _ _ fun ty => by
          rw [ex]
          exact grow_run (ty := ty) (olds := []) (news := cs') h0 h1 ht h2 hi hz w N.lenOf (fun W _ => by simp [Builtin.firstCells]) (fun W hW => by
            have := N.first W hW news.1 (Nat.le_refl _)
            rw [htk] at this
            exact this) (by omega) (by omega) (growslice_fits (by omega) (by rw [Nat.zero_add]; omega))
        have hcs : (([] : List Value).toArray ++ cs'.toArray ++ Builtin.zeroCells z.cells (grownCap w (0 + news.1) 0 e - (0 + news.1))).size = grownCap w (0 + news.1) 0 e * i.size := by
          simp only [Array.size_append, List.size_toArray, List.length_nil, size_zeroCells, hzs, ← hl, N.len]
          rw [Nat.zero_add, ← Nat.add_mul]
          congr 1
          omega
        refine wp_value hrun (hnx _ _ _ (Post.new (w := w) (w' := w.drew.alloc (.cells (([] : List Value).toArray ++ cs'.toArray ++ Builtin.zeroCells z.cells (grownCap w (0 + news.1) 0 e - (0 + news.1))) e)) (e := e) (lo := 0) (hi := 0) (cs := news.2.1) hpre rfl rfl rfl rfl (fun o _ hh => by omega) (by
          rw [hcs, N.len]
          exact Nat.mul_le_mul_right _ (by omega)) (by
          simp only [Array.toList_append, List.nil_append]
          rw [hl, List.take_left]
          refine CR.of (e := e) N.rel ?_
          cases hf : flatT P 6 e with
          | false => rfl
          | true => rw [hf] at hfl; simp at hfl; simp [N.flat hfl]) _) ?_)
        rw [Nat.zero_add] at hge ⊢
        exact named_slice hge hge (by rw [hsz, ← Nat.zero_add news.1, hcs]; rfl)
    · rename_i b len cap
      split
      · rename_i e' cs hbk
        refine Sat.bind_chk fun hm => Sat.bind_ask ?_
        simp only [Bool.and_eq_true, beq_iff_eq, decide_eq_true_eq, most] at hm
        obtain ⟨⟨⟨rfl, hm1⟩, hm2⟩, hm3⟩ := hm
        replace hm1 : (len + news.1) * i.bytes ≤ 140737488351232 := of_decide_eq_true hm1
        replace hm2 : len + news.1 ≤ 140737488351232 := of_decide_eq_true hm2
        have hbF : b ∈ F := hFs b (by simp [idsV, idsVC, idsV1])
        split
        · rename_i hb1
          replace hb1 := of_decide_eq_true hb1
          refine Sat.bind_chk fun hc2 => Sat.ret _ ⟨Shape.write hbF hbk, fun ν a w he hpre next Q hnx => ?_⟩
          replace hc2 := of_decide_eq_true hc2
          obtain ⟨cs', N⟩ := hn ν w hpre _ (he y (by simp [ho, Op.operands, Call.operands]) _ hy)
          obtain ⟨a', cap', ex, k2, k3, k4⟩ := he x (by simp [ho, Op.operands, Call.operands]) _ hx
          have hl := N.rel.len
          have htk : cs'.take (news.1 * i.size) = cs' := List.take_of_length_le (by rw [← hl, N.len]; exact Nat.le_refl _)
          have hrel : L2 (CR P ν e') news.2.1 cs' := by
            refine CR.of N.rel ?_
            cases hf : flatT P 6 e' with
            | false => rfl
            | true => rw [hf] at hfl; simp at hfl; simp [N.flat hfl]
          have hfit : (len + news.1) * i.size ≤ cap * i.size := Nat.mul_le_mul_right _ hb1
          rw [Nat.add_mul] at hfit
          obtain ⟨M, w', m1, m2, m3⟩ := write_ok (v := .slice (some ⟨b, 0, none⟩) (len + news.1) cap) hpre hbF hbk (off := len * i.size) (by rw [N.len]; omega) hrel
          have hfc : (Builtin.firstCells i.size news.1 (a.eval y)).run P w = .ok cs'.toArray w := by
            have := N.first w rfl news.1 (Nat.le_refl _)
            rw [htk] at this
            exact this
          have hrun := hex a w w' (.slice (some a') (len + news.1) cap') fun ty => by
            rw [ex]
            refine room_run h0 h1 ht h2 hi N.lenOf hfc (by omega) ?_
            by_cases hp : 0 < cap'
            · obtain ⟨N', n1, _, rfl, _⟩ := k4 hp
              rw [show ν b = some N' from n1] at m1
              cases m1
              rw [at_add]
              simpa using m2
            · have : cs' = [] := List.eq_nil_of_length_eq_zero (by rw [← hl, N.len]; have : news.1 = 0 := by omega
                                                                   rw [this]; simp)
              rw [this] at m2 ⊢
              exact m2
          refine wp_value hrun (hnx _ _ _ m3 ⟨_, _, rfl, k2, by omega, fun hp => k4 hp⟩)
        · rename_i hb1
          refine Sat.bind_chk fun hc2 => Sat.ret _ ⟨Shape.moved hbF hbk, fun ν a w he hpre next Q hnx => ?_⟩
          replace hc2 := of_decide_eq_true hc2
          replace hb1 : ¬ (len + news.1 ≤ cap) := fun h => hb1 (decide_eq_true h)
          obtain ⟨cs', N⟩ := hn ν w hpre _ (he y (by simp [ho, Op.operands, Call.operands]) _ hy)
          obtain ⟨a', cap', ex, k2, k3, k4⟩ := he x (by simp [ho, Op.operands, Call.operands]) _ hx
          have hl := N.rel.len
          have htk : cs'.take (news.1 * i.size) = cs' := List.take_of_length_le (by rw [← hl, N.len]; exact Nat.le_refl _)
          have hrel : L2 (CR P ν e') news.2.1 cs' := by
            refine CR.of N.rel ?_
            cases hf : flatT P 6 e' with
            | false => rfl
            | true => rw [hf] at hfl; simp at hfl; simp [N.flat hfl]
          have hbl := hpre.blk b hbF
          rw [hbk] at hbl
          obtain ⟨g, cur, lo, hi', q1, q2, q3, q4, q5⟩ := hbl
          have hql := q5.len
          have hns : news.2.1.length = news.1 * i.size := N.len
          have hfc : ∀ W : World, W.heap = w.heap → (Builtin.firstCells i.size news.1 (a.eval y)).run P W = .ok cs'.toArray W := fun W hW => by
            have := N.first W hW news.1 (Nat.le_refl _)
            rw [htk] at this
            exact this
          by_cases hroom : len + news.1 ≤ cap'
          · obtain ⟨N', n1, _, rfl, n4⟩ := k4 (by omega)
            rw [show ν b = some N' from n1] at q1
            cases q1
            rw [hsz] at n4
            have n4' : cap' * i.size = cur.size := by simpa using n4
            have hfit : (len + news.1) * i.size ≤ cap' * i.size := Nat.mul_le_mul_right _ hroom
            rw [Nat.add_mul] at hfit
            obtain ⟨w', s1, s2, s3, s4, s5, s6, s7⟩ := storeCells_run (P := P) (off := len * i.size) cs' 0 cur w q2 (by omega) q3 (L2.ones (hrel.mono fun _ _ hh => hh.1))
            have hrun := hex a w w' _ fun ty => by
              rw [ex]
              refine room_run h0 h1 ht h2 hi N.lenOf (hfc w rfl) hroom ?_
              rw [at_add]
              simpa [Nm.at] using s1
            have hsz' : ((put cur.toList (len * i.size + 0) cs').toArray).size = cur.size := by simp [put_len]
            have hpost := Post.moved (w' := w') (g' := g) (cs' := cs ++ news.2.1) (lo := lo) (hi := hi') hpre hbF hbk n1 s2 (.inl rfl) (fun k _ hk => s3 k hk) (by omega) s5 s6 s7 (by rw [hsz']; exact q3) (by
              rw [hsz', List.length_append]; omega) (by
              rw [List.length_append, List.toList_toArray, Nat.add_zero, hc2, hl]
              rw [put_at_end _ _ _ (by simp; omega)]
              rw [← hc2]
              exact q5.append hrel) (.slice (some ⟨hp.length, 0, none⟩) (len + news.1) (len + news.1))
            exact wp_value hrun (hnx _ _ _ hpost (named_slice hroom hroom (by rw [hsz, hsz']; exact n4')))
          · have hge := grownCap_ge w (len + news.1) cap' e'
            have hold : ∀ W : World, W.heap = w.heap → (Builtin.firstCells i.size len (.slice (some a') len cap')).run P W = .ok (cur.toList.take cs.length).toArray W := by
              intro W hW
              by_cases hp : 0 < cap'
              · obtain ⟨N', n1, _, rfl, n4⟩ := k4 hp
                rw [show ν b = some N' from n1] at q1
                cases q1
                have hr := run_loadCells_list (P := P) (w := W) ⟨g, 0, none⟩ (cur.toList.take cs.length) (fun j v hj => by
                  rw [List.getElem?_take] at hj
                  have hadd : (⟨g, 0, none⟩ : Addr).add j = ⟨g, j, none⟩ := by
                    have := at_add (⟨g, 0, 0, 0⟩ : Nm) 0 j
                    simpa [Nm.at] using this
                  rw [hadd]
                  split at hj
                  · simpa [World.cell?, hW, q2] using hj
                  · cases hj)
                rw [← hql, hc2] at hr
                simpa [Builtin.firstCells, Nm.at, hc2] using hr
              · have : len = 0 := by omega
                have h0 : cs.length = 0 := by rw [hc2, this]; simp
                rw [this, h0]
                simp [Builtin.firstCells, loadCells, loadCellsFrom]
            have hrun := hex a w _ _ fun ty => by
              rw [ex]
              exact grow_run (ty := ty) (news := cs') h0 h1 ht h2 hi hz w N.lenOf hold hfc (by omega) (by omega) (growslice_fits (by omega) (by omega))
            have hcs : ((cur.toList.take cs.length).toArray ++ cs'.toArray ++ Builtin.zeroCells z.cells (grownCap w (len + news.1) cap' e' - (len + news.1))).size = grownCap w (len + news.1) cap' e' * i.size := by
              simp only [Array.size_append, List.size_toArray, size_zeroCells, hzs]
              rw [← hql, hc2, ← hl, hns, ← Nat.add_mul, ← Nat.add_mul]
              congr 1
              omega
            have hpost := Post.moved (w' := w.drew.alloc (.cells ((cur.toList.take cs.length).toArray ++ cs'.toArray ++ Builtin.zeroCells z.cells (grownCap w (len + news.1) cap' e' - (len + news.1))) e')) (g' := w.heap.size) (cs' := cs ++ news.2.1) (lo := 0) (hi := 0) hpre hbF hbk q1 (heap_alloc_new w.drew _) (.inr (Nat.le_refl _)) (fun k hk _ => heap_alloc_old w.drew _ k hk) (by simp) rfl rfl rfl (fun o _ hh => by omega) (by
              rw [hcs, List.length_append, hc2, hns, ← Nat.add_mul]
              exact Nat.mul_le_mul_right _ hge) (by
              have e1 : (cs ++ news.2.1).length = (cur.toList.take cs.length ++ cs').length := by rw [List.length_append, List.length_append, ← hql, hl]
              rw [e1]
              simp only [Array.toList_append]
              rw [List.take_left]
              exact q5.append hrel) (.slice (some ⟨hp.length, 0, none⟩) (len + news.1) (len + news.1))
            exact wp_value hrun (hnx _ _ _ hpost (named_slice hge hge (by rw [hsz, hcs]; rfl)))
      · exact Sat.stop
    · exact Sat.stop
  · exact Sat.stop
end
end Go.Proofs.Ytgbncncmoiadaaa.Ex
/- What one operation does: copy. -/
namespace Go.Proofs.Ytgbncncmoiadaaa.Ex
open Go
set_option linter.unusedVariables false
set_option linter.unusedSimpArgs false
section
variable {P : Program} {F : List Nat} {fr : Fr} {hp : Hp} {o : Oper}
theorem copy_sat {ts : Array TypeId} {xs : Array Operand} {t : TypeId} {d s : Value} (ho : o.op = .call { callee := .builtin .copy, args := xs, argTypes := ts }) (h0 : ts[0]? = some t)
    (hvs : vals fr xs.toList = some [d, s]) (hFd : ∀ id, id ∈ idsV d → id ∈ F) (hF : ∀ id, id ∈ idsV s → id ∈ F) : Sat (copyA P hp t d s) (OpOk P F fr hp o) := by
  obtain ⟨x, y, rfl, hx, hy⟩ := vals_two hvs
  unfold copyA
  split
  · rename_i e b off len cap ht
    refine Sat.bind_lift fun n hn => Sat.bind (news_sat hF) fun news hN => ?_
    have hbF : b ∈ F := hFd b (by simp [idsV, idsVC, idsV1])
    refine wr_sat hbF ?_
    rintro hp' ⟨e', cs, he', hfit, hf, rfl⟩
    refine ⟨Shape.write hbF he', fun ν a w he hpre next Q hnx => ?_⟩
    obtain ⟨cs', N⟩ := hN ν w hpre _ (he y (by simp [ho, Op.operands, Call.operands]) _ hy)
    obtain ⟨a', cap', ex, k2, k3, k4⟩ := he x (by simp [ho, Op.operands, Call.operands]) _ hx
    have hmin : Nat.min news.1 len ≤ news.1 := Nat.min_le_left _ _
    have hmin2 : Nat.min news.1 len ≤ len := Nat.min_le_right _ _
    have hrel : L2 (CR P ν e') (news.2.1.take (Nat.min news.1 len * n)) (cs'.take (Nat.min news.1 len * n)) := by
      refine CR.of (N.rel.take _) ?_
      cases hf' : flatT P 6 e' with
      | false => rfl
      | true =>
        rw [hf'] at hf
        have hfl := N.flat (by simpa using hf)
        simp only [Bool.not_true, Bool.false_or]
        exact List.all_eq_true.2 fun x hx => List.all_eq_true.1 hfl x (List.mem_of_mem_take hx)
    obtain ⟨M, w', m1, m2, m3⟩ := write_ok (v := .int .i64 (Nat.min news.1 len : Nat)) hpre hbF he' hfit hrel
    have hfc := N.first w rfl _ hmin
    have hst : (storeCells a' (cs'.take (Nat.min news.1 len * n))).run P w = .ok () w' := by
      by_cases hp : 0 < cap'
      · obtain ⟨N', n1, _, rfl, _⟩ := k4 hp
        rw [show ν b = some N' from n1] at m1
        cases m1
        exact m2
      · have h1 : Nat.min news.1 len = 0 := by omega
        rw [h1, Nat.zero_mul, List.take_zero] at m2 ⊢
        exact m2
    have hrun : (execOp a.eval o).run P w = .ok (.value (.int .i64 (Nat.min news.1 len : Nat))) w' := by
      simp only [execOp, ho, resolve, invoke, builtin, Sem.run_bind, Result.andThen_ok, Sem.run_pure, List.map_toArray, List.map_cons, List.map_nil, Builtin.copy_, ex]
      simp [h0, run_und ht, N.lenOf, run_sz hn, hfc, hst, goInt]
    exact wp_value hrun (hnx _ _ _ m3 rfl)
  · exact Sat.stop
end
end Go.Proofs.Ytgbncncmoiadaaa.Ex
/- A call: renaming, and the callee's heap within the caller's. -/
namespace Go.Proofs.Ytgbncncmoiadaaa.Ex
open Go
set_option linter.unusedVariables false
set_option linter.unusedSimpArgs false
section
variable {P : Program} {F : List Nat} {fr : Fr} {hp : Hp} {o : Oper}
theorem mapL_L2 {α β : Type} {f : α → Option β} : ∀ {xs : List α} {ys : List β}, mapL f xs = some ys → L2 (fun x y => f x = some y) xs ys
  | [], ys, h => by cases h; exact .nil
  | x :: xs, ys, h => by
    unfold mapL at h
    cases hx : f x with
    | none => rw [hx] at h; cases h
    | some y =>
      cases hr : mapL f xs with
      | none => rw [hx, hr] at h; cases h
      | some r => rw [hx, hr] at h; cases h; exact .cons hx (mapL_L2 hr)
theorem L2.via {α β γ : Type} {R : α → β → Prop} {S : α → γ → Prop} {T : β → γ → Prop} {l : List α} {m : List β} {n : List γ} (h1 : L2 R l m) (h2 : L2 S l n) (h : ∀ a b c, R a b → S a c → T b c) : L2 T m n := by
  induction h1 generalizing n with
  | nil => cases h2; exact .nil
  | cons a _ ih => cases h2 with
    | cons b c => exact .cons (h _ _ _ a b) (ih c)
/-- What is renamed keeps its meaning. -/
def Kept (f : Nat → Option Nat) (ν ν1 : Nu) : Prop := ∀ b j N, f b = some j → ν b = some N → ν1 j = some N
section
variable {f : Nat → Option Nat} {ν ν1 : Nu}
theorem ren0_ok (hk : Kept f ν ν1) {v v1 v' : Value} (h : ren0 f v = some v1) (hv : VR0 ν v v') : VR0 ν1 v1 v' := by
  unfold ren0 at h
  split at h
  · rename_i a
    obtain ⟨N, h1, h2, h3⟩ := hv
    cases hf : f a.block with
    | none => rw [hf] at h; cases h
    | some j => rw [hf] at h; cases h; exact ⟨N, hk _ _ _ hf h1, h2, h3⟩
  · rename_i a l c
    obtain ⟨a', c', h1, h2, h3, h4⟩ := hv
    cases hf : f a.block with
    | none => rw [hf] at h; cases h
    | some j =>
      rw [hf] at h
      cases h
      refine ⟨a', c', h1, h2, h3, fun hc => ?_⟩
      obtain ⟨N, k1, k2⟩ := h4 hc
      exact ⟨N, hk _ _ _ hf k1, k2⟩
  · split at h
    · rename_i hf
      cases h
      cases v with
      | func fn a b => cases hv
      | pointer a => cases a with
        | none => exact hv
        | some a => cases hf
      | slice a l c => cases a with
        | some a => cases hf
        | none => cases l <;> cases c <;> first | exact hv | cases hf
      | map r => cases r <;> first | exact hv | cases hf
      | _ => first | exact hv | cases hf
    · cases h
theorem VR1.of0 {v v' : Value} (h : VR0 ν v v') : VR1 ν v v' := by
  cases v with
  | func fn a b => cases h
  | _ => exact h
theorem VRC.of1 {v v' : Value} (h : VR1 ν v v') : VRC ν v v' := by
  cases v with
  | agg cs => cases h
  | _ => exact h
theorem ren1_ok (hk : Kept f ν ν1) {v v1 v' : Value} (h : ren1 f v = some v1) (hv : VR1 ν v v') : VR1 ν1 v1 v' := by
  cases v with
  | func fn a b =>
    simp only [ren1] at h
    cases ha : mapL (ren0 f) a.toList with
    | none => rw [ha] at h; cases h
    | some a2 =>
      cases hb : mapL (ren0 f) b.toList with
      | none => rw [ha, hb] at h; cases h
      | some b2 =>
        rw [ha, hb] at h
        cases h
        obtain ⟨a', b', rfl, h1, h2⟩ := hv
        exact ⟨a', b', rfl, by simpa using (mapL_L2 ha).via h1 fun _ _ _ => ren0_ok hk, by simpa using (mapL_L2 hb).via h2 fun _ _ _ => ren0_ok hk⟩
  | _ => simp only [ren1] at h; exact VR1.of0 (ren0_ok hk h hv)
theorem renC_ok (hk : Kept f ν ν1) {v v1 v' : Value} (h : renC f v = some v1) (hv : VRC ν v v') : VRC ν1 v1 v' := by
  cases v with
  | agg cs =>
    simp only [renC] at h
    cases ha : mapL (ren1 f) cs.toList with
    | none => rw [ha] at h; cases h
    | some a2 =>
      rw [ha] at h
      cases h
      obtain ⟨c', rfl, h1⟩ := hv
      exact ⟨c', rfl, by simpa using (mapL_L2 ha).via h1 fun _ _ _ => ren1_ok hk⟩
  | _ => simp only [renC] at h; exact VRC.of1 (ren1_ok hk h hv)
theorem ren_ok (hk : Kept f ν ν1) {v v1 v' : Value} (h : ren f v = some v1) (hv : VR ν v v') : VR ν1 v1 v' := by
  cases v with
  | tuple cs =>
    simp only [ren] at h
    cases ha : mapL (renC f) cs.toList with
    | none => rw [ha] at h; cases h
    | some a2 =>
      rw [ha] at h
      cases h
      obtain ⟨c', rfl, h1⟩ := hv
      exact ⟨c', rfl, by simpa using (mapL_L2 ha).via h1 fun _ _ _ => renC_ok hk⟩
  | _ => simp only [ren] at h; exact VR.ofC (renC_ok hk h hv)
theorem CR.ren_flat {e : TypeId} {cs cs' : List Value} (hf : flatT P 6 e = true) (h : L2 (CR P ν e) cs cs') : L2 (CR P ν1 e) cs cs' :=
  h.mono fun v v' hh => ⟨(flat1_VR (hh.2 hf) v').2 ((flat1_VR (hh.2 hf) v').1 hh.1), hh.2⟩
theorem CR.ren_map {e : TypeId} (hk : Kept f ν ν1) {cs cs1 cs' : List Value} (hf : ¬ flatT P 6 e = true) (hm : mapL (ren1 f) cs = some cs1) (h : L2 (CR P ν e) cs cs') : L2 (CR P ν1 e) cs1 cs' :=
  (mapL_L2 hm).via h fun _ _ _ hr hh => ⟨ren1_ok hk hr hh.1, fun h => absurd h hf⟩
theorem renB_ok (hk : Kept f ν ν1) {w : World} {id j : Nat} (hj : ∀ N, ν id = some N → ν1 j = some N) {b b1 : Blk} (h : renB P f b = some b1) (hb : RepBlk P ν w id b) : RepBlk P ν1 w j b1 := by
  have one : ∀ {e : TypeId} {cs cs1 : List Value} {mk : List Value → Blk}, (if flatT P 6 e = true then some (mk cs) else (mapL (ren1 f) cs).map mk) = some b1 →
      ∃ cs1, b1 = mk cs1 ∧ cs1.length = cs.length ∧ ∀ cs', L2 (CR P ν e) cs cs' → L2 (CR P ν1 e) cs1 cs' := by
    intro e cs _ mk h
    split at h
    · rename_i hf
      cases h
      exact ⟨cs, rfl, rfl, fun cs' hc => CR.ren_flat hf hc⟩
    · rename_i hf
      cases hm : mapL (ren1 f) cs with
      | none => rw [hm] at h; cases h
      | some cs1 =>
        rw [hm] at h
        cases h
        exact ⟨cs1, rfl, (mapL_L2 hm).len.symm, fun cs' hc => CR.ren_map hk hf hm hc⟩
  cases b with
  | dead => cases h; trivial
  | own e cs =>
    obtain ⟨g, cur, lo, hi, h1, h2, h3, h4, h5⟩ := hb
    obtain ⟨cs1, rfl, hl, hc⟩ := one (cs1 := cs) (mk := Blk.own e) h
    exact ⟨g, cur, lo, hi, hj _ h1, h2, h3, by omega, by rw [hl]; exact hc _ h5⟩
  | ro e cs =>
    obtain ⟨N, h1, h3, h4, cs', h5, h6⟩ := hb
    obtain ⟨cs1, rfl, hl, hc⟩ := one (cs1 := cs) (mk := Blk.ro e) h
    exact ⟨N, hj _ h1, h3, h4, cs', hc _ h5, h6⟩
theorem renB_own {b b1 : Blk} (h : renB P f b = some b1) : b1.isOwn = b.isOwn ∧ b1.live = b.live := by
  cases b with
  | dead => cases h; exact ⟨rfl, rfl⟩
  | own e cs =>
    simp only [renB] at h
    split at h
    · cases h; exact ⟨rfl, rfl⟩
    · cases hm : mapL (ren1 f) cs with
      | none => rw [hm] at h; cases h
      | some c => rw [hm] at h; cases h; exact ⟨rfl, rfl⟩
  | ro e cs =>
    simp only [renB] at h
    split at h
    · cases h; exact ⟨rfl, rfl⟩
    · cases hm : mapL (ren1 f) cs with
      | none => rw [hm] at h; cases h
      | some c => rw [hm] at h; cases h; exact ⟨rfl, rfl⟩
end
theorem posIn_some : ∀ {ids : List Nat} {b j : Nat}, posIn ids b = some j → ids[j]? = some b
  | [], _, _, h => by cases h
  | x :: xs, b, j, h => by
    unfold posIn at h
    split at h
    · rename_i hx
      cases h
      simpa using hx
    · cases hp : posIn xs b with
      | none => rw [hp] at h; cases h
      | some k => rw [hp] at h; cases h; simpa using posIn_some hp
theorem reach_nodup : ∀ (n : Nat) (todo seen : List Nat), seen.Nodup → (reach P hp n todo seen).Nodup
  | 0, _, seen, h => h
  | n + 1, [], seen, h => h
  | n + 1, b :: r, seen, h => by
    unfold reach
    split
    · exact reach_nodup n _ _ h
    · rename_i hb
      refine reach_nodup n _ _ (List.nodup_append.2 ⟨h, by simp, fun a ha c hc => ?_⟩)
      rw [List.mem_singleton.1 hc]
      rintro rfl
      exact hb (by simpa using ha)
theorem setAll_ok {f : Nat → Option Nat} {ids : List Nat} {h2 : Hp} : ∀ {js : List Nat} {hp hp1 : Hp}, setAll P f ids h2 js hp = some hp1 → (∀ j b, j ∈ js → ids[j]? = some b → b < hp.length) → hp1.length = hp.length ∧
    ∀ id, (∃ j, j ∈ js ∧ ids[j]? = some id ∧ renB P f (h2.getD j .dead) = some (hp1.getD id .dead)) ∨ ((∀ j, j ∈ js → ids[j]? ≠ some id) ∧ hp1.getD id .dead = hp.getD id .dead)
  | [], hp, hp1, h, _ => by cases h; exact ⟨rfl, fun id => .inr ⟨fun j hj => by simp at hj, rfl⟩⟩
  | j :: r, hp, hp1, h, hlt => by
    unfold setAll at h
    cases hb : ids[j]? with
    | none => rw [hb] at h; cases h
    | some b =>
      cases hk : renB P f (h2.getD j .dead) with
      | none => rw [hb, hk] at h; cases h
      | some k =>
        rw [hb, hk] at h
        have hbl := hlt j b (by simp) hb
        obtain ⟨h1, h3⟩ := setAll_ok (js := r) (hp := hp.set b k) (hp1 := hp1) h (fun j' b' hj' hb' => by rw [List.length_set]; exact hlt j' b' (by simp [hj']) hb')
        refine ⟨by rw [h1, List.length_set], fun id => ?_⟩
        rcases h3 id with ⟨j', k1, k2, k3⟩ | ⟨k1, k2⟩
        · exact .inl ⟨j', by simp [k1], k2, k3⟩
        · rw [getD_set id hbl] at k2
          by_cases e : id = b
          · subst e
            rw [if_pos rfl] at k2
            exact .inl ⟨j, by simp, hb, by rw [k2]; exact hk⟩
          · rw [if_neg e] at k2
            refine .inr ⟨fun j' hj' => ?_, k2⟩
            rcases List.mem_cons.1 hj' with rfl | hj'
            · rw [hb]; intro h; cases h; exact e rfl
            · exact k1 j' hj'
end
end Go.Proofs.Ytgbncncmoiadaaa.Ex
/- A call: the callee is run over what its arguments lead to. -/
namespace Go.Proofs.Ytgbncncmoiadaaa.Ex
open Go
set_option linter.unusedVariables false
set_option linter.unusedSimpArgs false
section
variable {P : Program} {F : List Nat} {fr : Fr} {hp : Hp} {o : Oper}
/-- What a call is told to do. -/
def CallOk (P : Program) (F : List Nat) (f : FuncId) (args : List Value) (hp : Hp) (r : Res) : Prop :=
  Shape F hp r ∧ ∀ ν w args', L2 (VR ν) args args' → Pre P F ν hp w → Calls P f args'.toArray w fun e w' => ∃ v' ν', e = .returned v' ∧ VR ν' r.v v' ∧ Post P F ν hp w r ν' w'
theorem L2.getD {α β : Type} {R : α → β → Prop} {l : List α} {m : List β} (h : L2 R l m) {i : Nat} {a : α} (ha : l[i]? = some a) : ∃ b, m[i]? = some b ∧ R a b := h.get i a ha
theorem getD_of {b : Blk} {l : Hp} {i : Nat} (h : l[i]? = some b) : l.getD i .dead = b := by rw [List.getD_eq_getElem?_getD, h]; rfl
theorem getD_app {l m : Hp} {i : Nat} (h : l.length ≤ i) : (l ++ m).getD i .dead = m.getD (i - l.length) .dead := by
  rw [List.getD_eq_getElem?_getD, List.getD_eq_getElem?_getD, List.getElem?_append_right h]
theorem getD_app_left {l m : Hp} {i : Nat} (h : i < l.length) : (l ++ m).getD i .dead = l.getD i .dead := by
  rw [List.getD_eq_getElem?_getD, List.getD_eq_getElem?_getD, List.getElem?_append_left h]
theorem call_sat {inl : CallF} {g : FuncId} {args : List Value} (hinl : ∀ args hp, Sat (inl g args hp) (CallSpec P g args hp)) (hF : ∀ id, id ∈ argIds P hp args → id ∈ F) :
    Sat (callA P inl g args hp) (CallOk P F g args hp) := by
  unfold callA
  refine Sat.bind_lift fun args1 ha => Sat.bind_lift fun sub hs => Sat.bind (hinl _ _) fun r hr => Sat.bind_chk fun hc => Sat.bind_lift fun v hv => Sat.bind_lift fun hp1 hs1 => Sat.bind_lift fun news hn => Sat.ret _ ?_
  simp only [Bool.and_eq_true, List.all_eq_true] at hc
  obtain ⟨hlen, hown⟩ := hc
  replace hlen := of_decide_eq_true hlen
  revert hF ha hs hv hs1 hn hlen
  have hnd : (argIds P hp args).Nodup := reach_nodup _ _ _ (by simp)
  revert hnd
  generalize argIds P hp args = ids
  intro hnd hF ha hs hv hs1 hn hlen
  have hsl := (mapL_L2 hs).len
  have hsub : ∀ j id, ids[j]? = some id → renB P (posIn ids) (hp.getD id .dead) = some (sub.getD j .dead) := fun j id hj => by
    obtain ⟨b, k1, k2⟩ := (mapL_L2 hs).get j id hj
    rw [getD_of k1]
    exact k2
  have hids : ∀ j, j < ids.length → ∃ id, ids[j]? = some id := fun j hj => ⟨ids[j], by simp [hj]⟩
  have hidlt : ∀ j id, ids[j]? = some id → j < ids.length := fun j id hj => by
    rcases Nat.lt_or_ge j ids.length with h | h
    · exact h
    · rw [List.getElem?_eq_none h] at hj; cases hj
  have hmem : ∀ j id, ids[j]? = some id → id ∈ F := fun j id hj => hF id (List.mem_of_getElem? hj)
  have hinj : ∀ i j id, ids[i]? = some id → ids[j]? = some id → i = j := fun i j id hi hj => by
    have h1 := hidlt i id hi
    have h2 := hidlt j id hj
    exact (List.getElem?_inj h1 hnd).1 (hi.trans hj.symm)
  have howj : ∀ j id, j ∈ r.wr → ids[j]? = some id → (hp.getD id .dead).isOwn = true := fun j id hj hi => by
    rw [← (renB_own (hsub j id hi)).1]
    exact hown j hj
  obtain ⟨hl1, hset⟩ := setAll_ok hs1 fun j b hj hb => own_lt (howj j b hj hb)
  have hwr : ∀ id, id ∈ r.wr.filterMap (fun j => ids[j]?) → ∃ j, j ∈ r.wr ∧ ids[j]? = some id := fun id hid => by
    obtain ⟨j, h1, h2⟩ := List.mem_filterMap.1 hid
    exact ⟨j, h1, h2⟩
  have hwrj : ∀ j id, j ∈ r.wr → ids[j]? = some id → id ∈ r.wr.filterMap (fun j => ids[j]?) := fun j id h1 h2 => List.mem_filterMap.2 ⟨j, h1, h2⟩
  have hnl := (mapL_L2 hn).len
  rw [List.length_drop] at hnl
  have hnew : ∀ id, hp.length ≤ id → (hp1 ++ news).getD id .dead = news.getD (id - hp.length) .dead := fun id hid => by
    rw [getD_app (by omega), hl1]
  have hold : ∀ id, id < hp.length → (hp1 ++ news).getD id .dead = hp1.getD id .dead := fun id hid => getD_app_left (by omega)
  have hnewB : ∀ k, k < news.length → renB P (backTo ids hp.length) (r.hp.getD (ids.length + k) .dead) = some (news.getD k .dead) := fun k hk => by
    obtain ⟨b, k1, k2⟩ := (mapL_L2 hn).get' k news[k] (by simp [hk])
    rw [List.getElem?_drop] at k1
    rw [getD_of k1, getD_of (i := k) (l := news) (b := news[k]) (by simp [hk])]
    exact k2
  refine ⟨⟨?_, fun id hid => ?_, fun id hid => ?_, fun id hid hnid => ?_⟩, fun ν w args' hargs hpre => ?_⟩
  · simp [hl1]
  · obtain ⟨j, h1, h2⟩ := hwr id hid
    exact ⟨hmem j id h2, own_lt (howj j id h1 h2)⟩
  · obtain ⟨j, h1, h2⟩ := hwr id hid
    exact howj j id h1 h2
  · show (hp1 ++ news).getD id .dead = _
    rw [hold id hid]
    rcases hset id with ⟨j, h1, h2, _⟩ | ⟨_, h2⟩
    · exact absurd (hwrj j id h1 h2) hnid
    · exact h2
  · let ν1 : Nu := fun j => (ids[j]?).bind ν
    have e1 : ∀ j id, ids[j]? = some id → ν1 j = ν id := fun j id hj => by show (ids[j]?).bind ν = _; rw [hj]; rfl
    have hk1 : Kept (posIn ids) ν ν1 := fun b j N hb hN => by rw [e1 j b (posIn_some hb)]; exact hN
    have hsub0 : ∀ j, ids.length ≤ j → sub.getD j .dead = .dead := fun j hj => getD_out (by omega)
    have rep : Rep P ν1 sub w := by
      refine ⟨fun j hj => ?_, fun j => ?_, fun i j N K hij hi hj hN hK => ?_⟩
      · show (ids[j]?).bind ν = none
        rw [List.getElem?_eq_none (by omega)]
        rfl
      · rcases Nat.lt_or_ge j ids.length with h | h
        · obtain ⟨id, hid⟩ := hids j h
          exact renB_ok hk1 (fun N hN => by rw [e1 j id hid]; exact hN) (hsub j id hid) (hpre.blk id (hmem j id hid))
        · rw [hsub0 j h]; trivial
      · have hi' : i < ids.length := by
          rcases Nat.lt_or_ge i ids.length with h | h
          · exact h
          · rw [hsub0 i h] at hi; cases hi
        have hj' : j < ids.length := by
          rcases Nat.lt_or_ge j ids.length with h | h
          · exact h
          · rw [hsub0 j h] at hj; cases hj
        obtain ⟨a, ha⟩ := hids i hi'
        obtain ⟨b, hb⟩ := hids j hj'
        rw [(renB_own (hsub i a ha)).1] at hi
        rw [(renB_own (hsub j b hb)).2] at hj
        rw [e1 i a ha] at hN
        rw [e1 j b hb] at hK
        exact hpre.sep a b N K (fun e => hij (hinj i j a ha (by rw [e]; exact hb))) (hmem i a ha) (hmem j b hb) hi hj hN hK
    refine (hr ν1 w args' ((mapL_L2 ha).via hargs fun _ _ _ h1 h2 => ren_ok hk1 h1 h2) rep).mono ?_
    rintro e w' ⟨v', ν', rfl, hvr, inv⟩
    have hm : sub.length = ids.length := hsl.symm
    let ν2 : Nu := fun id => if id < hp.length then ν id else ν' (ids.length + (id - hp.length))
    have o2 : ∀ id, id < hp.length → ν2 id = ν id := fun id h => if_pos h
    have n2 : ∀ id, hp.length ≤ id → ν2 id = ν' (ids.length + (id - hp.length)) := fun id h => if_neg (by omega)
    have hsame : ∀ j id, ids[j]? = some id → ν' j = ν id := fun j id hj => by
      rw [inv.same j (by rw [hm]; exact hidlt j id hj), e1 j id hj]
    have le2 : Le ν ν2 := fun id N hN => by
      rcases Nat.lt_or_ge id hp.length with h | h
      · rw [o2 id h]; exact hN
      · rw [hpre.dom id h] at hN; cases hN
    have hk2 : Kept (backTo ids hp.length) ν' ν2 := fun j id N hb hN => by
      unfold backTo at hb
      split at hb
      · rw [hsame j id hb] at hN
        exact le2 id N hN
      · cases hb
        rename_i hj
        rw [n2 _ (by omega), show ids.length + (hp.length + (j - ids.length) - hp.length) = j by omega]
        exact hN
    refine ⟨v', ν2, rfl, ren_ok hk2 hv hvr, ?_⟩
    -- what an old block is now
    have hq : ∀ id, id < hp.length → (∃ j, j ∈ r.wr ∧ ids[j]? = some id ∧ renB P (backTo ids hp.length) (r.hp.getD j .dead) = some ((hp1 ++ news).getD id .dead)) ∨ ((∀ j, j ∈ r.wr → ids[j]? ≠ some id) ∧ (hp1 ++ news).getD id .dead = hp.getD id .dead) := fun id h => by
      rw [hold id h]
      exact hset id
    have hnewq : ∀ id, hp.length ≤ id → (∃ k, id = hp.length + k ∧ renB P (backTo ids hp.length) (r.hp.getD (ids.length + k) .dead) = some ((hp1 ++ news).getD id .dead)) ∨ (hp1 ++ news).getD id .dead = .dead := fun id h => by
      rw [hnew id h]
      rcases Nat.lt_or_ge (id - hp.length) news.length with hk | hk
      · exact .inl ⟨id - hp.length, by omega, hnewB _ hk⟩
      · exact .inr (getD_out hk)
    have hwasown : ∀ id, id < hp.length → ((hp1 ++ news).getD id .dead).isOwn = true → (hp.getD id .dead).isOwn = true := fun id h ho => by
      rcases hq id h with ⟨j, h1, h2, _⟩ | ⟨_, h2⟩
      · exact howj j id h1 h2
      · rw [← h2]; exact ho
    have hwaslive : ∀ id, id < hp.length → ((hp1 ++ news).getD id .dead).live = true → (hp.getD id .dead).live = true := fun id h ho => by
      rcases hq id h with ⟨j, h1, h2, _⟩ | ⟨_, h2⟩
      · exact own_live (howj j id h1 h2)
      · rw [← h2]; exact ho
    have hfresh : ∀ k N, (r.hp.getD (ids.length + k) .dead).live = true → ν' (ids.length + k) = some N → w.heap.size ≤ N.g ∨ ∃ j id K, j ∈ r.wr ∧ ids[j]? = some id ∧ ν id = some K ∧ K.g = N.g := fun k N hl hN => by
      rcases inv.fresh (ids.length + k) N (by omega) hl hN with h | ⟨j, K, h1, h2, h3, h4⟩
      · exact .inl h
      · obtain ⟨id, hid⟩ := hids j (by omega)
        rw [e1 j id hid] at h3
        exact .inr ⟨j, id, K, h2, hid, h3, h4⟩
    -- an old block of one's own or in use and a new one
    have hcross : ∀ i k N K, i ∈ F → i < hp.length → ((hp1 ++ news).getD i .dead).live = true → (r.hp.getD (ids.length + k) .dead).live = true → (((hp1 ++ news).getD i .dead).isOwn = true ∨ (r.hp.getD (ids.length + k) .dead).isOwn = true) →
        ν i = some N → ν' (ids.length + k) = some K → N.g ≠ K.g := fun i k N K hiF hi hil hkl hoo hN hK => by
      rcases hfresh k K hkl hK with h | ⟨j, id, M, h1, h2, h3, h4⟩
      · have := (hpre.blk i hiF).lt (hwaslive i hi hil) hN
        omega
      · by_cases e : id = i
        · subst e
          rcases hq id hi with ⟨j', q1, q2, q3⟩ | ⟨q1, _⟩
          · have hjj := hinj j j' id h2 q2
            subst hjj
            have hne : j ≠ ids.length + k := by have := hidlt j id h2; omega
            have hN' : ν' j = some N := by rw [hsame j id h2]; exact hN
            rw [(renB_own q3).1] at hoo
            rw [(renB_own q3).2] at hil
            rcases hoo with ho | ho
            · exact inv.rep.sep j _ N K hne ho hkl hN' hK
            · exact fun e => inv.rep.sep _ j K N (fun e => hne e.symm) ho hil hK hN' e.symm
          · exact absurd h2 (q1 j h1)
        · rw [← h4]
          exact fun e2 => hpre.sep id i M N e (hmem j id h2) hiF (howj j id h1 h2) (hwaslive i hi hil) h3 hN e2.symm
    refine ⟨fun id h => o2 id h, fun id h => ?_, fun id h => ?_, fun i j N K hij hi hj hoi hlj hN hK => ?_, inv.os, inv.tape, inv.output, inv.size, fun g hg hfr => ?_, fun id N h hl hN => ?_⟩
    · have h' : (hp1 ++ news).length ≤ id := h
      rw [List.length_append] at h'
      rw [n2 id (by omega)]
      exact inv.rep.dom _ (by omega)
    · show RepBlk P ν2 w' id ((hp1 ++ news).getD id .dead)
      rcases Nat.lt_or_ge id hp.length with hlt | hge
      · have hidF : id ∈ F := h.resolve_right (by omega)
        rcases hq id hlt with ⟨j, h1, h2, h3⟩ | ⟨h1, h2⟩
        · exact renB_ok hk2 (fun N hN => by rw [hsame j id h2] at hN; exact le2 id N hN) h3 (inv.rep.blk j)
        · rw [h2]
          refine (hpre.blk id hidF).le le2 (fun N hN hl => inv.frame _ ((hpre.blk id hidF).lt hl hN) fun j M hj hjw hM => ?_) inv.size
          obtain ⟨b, hb⟩ := hids j (by omega)
          rw [e1 j b hb] at hM
          exact hpre.sep b id M N (fun e => h1 j hjw (by rw [← e]; exact hb)) (hmem j b hb) hidF (howj j b hjw hb) hl hM hN
      · rcases hnewq id hge with ⟨k, rfl, hk⟩ | hd
        · exact renB_ok hk2 (fun N hN => by rw [n2 _ (by omega), show ids.length + (hp.length + k - hp.length) = ids.length + k by omega]; exact hN) hk (inv.rep.blk _)
        · rw [hd]; trivial
    · replace hoi : ((hp1 ++ news).getD i .dead).isOwn = true := hoi
      replace hlj : ((hp1 ++ news).getD j .dead).live = true := hlj
      rcases Nat.lt_or_ge i hp.length with hi2 | hi2
      · have hiF : i ∈ F := hi.resolve_right (by omega)
        rw [o2 i hi2] at hN
        rcases Nat.lt_or_ge j hp.length with hj2 | hj2
        · have hjF : j ∈ F := hj.resolve_right (by omega)
          rw [o2 j hj2] at hK
          exact hpre.sep i j N K hij hiF hjF (hwasown i hi2 hoi) (hwaslive j hj2 hlj) hN hK
        · rcases hnewq j hj2 with ⟨k, rfl, hk⟩ | hd
          · rw [n2 _ hj2, show ids.length + (hp.length + k - hp.length) = ids.length + k by omega] at hK
            rw [(renB_own hk).2] at hlj
            exact hcross i k N K hiF hi2 (own_live hoi) hlj (.inl hoi) hN hK
          · rw [hd] at hlj; cases hlj
      · rcases hnewq i hi2 with ⟨k, rfl, hk⟩ | hd
        · rw [n2 _ hi2, show ids.length + (hp.length + k - hp.length) = ids.length + k by omega] at hN
          rw [(renB_own hk).1] at hoi
          rcases Nat.lt_or_ge j hp.length with hj2 | hj2
          · have hjF : j ∈ F := hj.resolve_right (by omega)
            rw [o2 j hj2] at hK
            exact fun e => hcross j k K N hjF hj2 hlj (own_live hoi) (.inr hoi) hK hN e.symm
          · rcases hnewq j hj2 with ⟨k', rfl, hk'⟩ | hd
            · rw [n2 _ hj2, show ids.length + (hp.length + k' - hp.length) = ids.length + k' by omega] at hK
              rw [(renB_own hk').2] at hlj
              exact inv.rep.sep _ _ N K (by omega) hoi hlj hN hK
            · rw [hd] at hlj; cases hlj
        · rw [hd] at hoi; cases hoi
    · refine inv.frame g hg fun j N hj hjw hN => ?_
      obtain ⟨b, hb⟩ := hids j (by omega)
      rw [e1 j b hb] at hN
      exact hfr b N (hwrj j b hjw hb) hN
    · replace hl : ((hp1 ++ news).getD id .dead).live = true := hl
      rcases hnewq id h with ⟨k, rfl, hk⟩ | hd
      · rw [n2 _ h, show ids.length + (hp.length + k - hp.length) = ids.length + k by omega] at hN
        rw [(renB_own hk).2] at hl
        rcases hfresh k N hl hN with h | ⟨j, b, K, h1, h2, h3, h4⟩
        · exact .inl h
        · exact .inr ⟨b, K, hwrj j b h1 h2, h3, h4⟩
      · rw [hd] at hl; cases hl
end
end Go.Proofs.Ytgbncncmoiadaaa.Ex
/- One operation, whichever. -/
namespace Go.Proofs.Ytgbncncmoiadaaa.Ex
open Go
set_option linter.unusedVariables false
set_option linter.unusedSimpArgs false
section
variable {P : Program} {F : List Nat} {fr : Fr} {hp : Hp} {o : Oper}
/-- No function has the one name that a call treats by itself. -/
def Named (P : Program) : Prop := ∀ (g : FuncId) (fn : Func), P.funcs[g]? = some fn → (fn.name == "runtime.NumGoroutine") = false
theorem callFunc_run (hN : Named P) {g : FuncId} (hb : bodied P g = true) (args : Array Value) (w : World) : (callFunc g args).run P w = .ok (.enter g args) w := by
  unfold bodied at hb
  split at hb
  · rename_i fn hf
    have h1 := hN g fn hf
    have h2 : fn.body.isNone = false := by cases hx : fn.body with
      | none => rw [hx] at hb; cases hb
      | some b => rfl
    simp [callFunc, hf]
    rw [if_neg (by simpa using h1), if_neg (by intro h; rw [h] at hb; cases hb)]
  · cases hb
theorem func_VR {ν : Nu} {g : FuncId} {f c : Array Value} {v' : Value} (h : VR ν (.func (.func g) f c) v') : ∃ f' c', v' = .func (.func g) f' c' ∧ L2 (VR ν) f.toList f'.toList ∧ L2 (VR ν) c.toList c'.toList := by
  obtain ⟨f', c', rfl, h1, h2⟩ := h
  exact ⟨f', c', rfl, h1.mono fun _ _ h => VR.ofC (VRC.of1 (VR1.of0 h)), h2.mono fun _ _ h => VR.ofC (VRC.of1 (VR1.of0 h))⟩
theorem flat_args {ν : Nu} : ∀ {l l' : List Value}, l.all flat = true → L2 (VR ν) l l' → l' = l
  | [], _, _, .nil => rfl
  | v :: l, _, hf, .cons h hl => by
    simp only [List.all_cons, Bool.and_eq_true] at hf
    rw [(flat_VR hf.1 _).1 h, flat_args hf.2 hl]
theorem callop_sat {call : CallF} (hN : Named P) (hcall : ∀ g args, (∀ id, id ∈ argIds P hp args → id ∈ F) → Sat (call g args hp) (CallOk P F g args hp)) {f : Operand} {xs : Array Operand} {ts : Array TypeId}
    (ho : o.op = .call { callee := .value f, args := xs, argTypes := ts }) (hF : ∀ id, id ∈ footA P fr hp o → id ∈ F) :
    Sat ((lift (val fr f)).bind fun fv => (lift (vals fr xs.toList)).bind fun vs => match fv with
      | .func (.func g) first captured => if bodied P g = true then call g (first.toList ++ vs ++ captured.toList) hp else (extA P fr o g (first.toList ++ vs ++ captured.toList)).map fun v => (⟨v, hp, []⟩ : Res)
      | _ => stop) (OpOk P F fr hp o) := by
  have plain2 : Sat (lift (plainA P fr o)) fun v => OpOk P F fr hp o ⟨v, hp, []⟩ := Sat.lift fun v hv => OpOk.pure fun ν a w he _ => ⟨v, plain_ok hv he w⟩
  refine Sat.bind_lift fun fv hf => Sat.bind_lift fun vs hvs => ?_
  split
  · rename_i g first captured
    by_cases hb : bodied P g = true
    case neg =>
      rw [if_neg hb]
      apply Sat.map
      intro s r he hg
      unfold extA at he
      split at he
      · rename_i q s'
        split at he
        · rename_i hfl
          cases he
          rw [Bool.and_eq_true] at hfl
          have hs : ExtSpec P g (first.toList ++ vs ++ captured.toList) q.v := hg.2 _ (List.mem_singleton.2 rfl)
          refine OpOk.pure fun ν a w he _ => ⟨q.v, ?_, (flat_VR hfl.2 _).2 rfl⟩
          obtain ⟨f', c', e1, h1, h2⟩ := func_VR (he f (by simp [ho, Op.operands, Call.operands]) _ hf)
          have h3 := vals_L2 (ν := ν) (a := a) hvs fun x hx v hv => he x (by simp [ho, Op.operands, Call.operands]; exact .inr (by simpa using hx)) v hv
          have hl : L2 (VR ν) (first.toList ++ vs ++ captured.toList) (f' ++ xs.map a.eval ++ c').toList := by
            rw [Array.toList_append, Array.toList_append, Array.toList_map]
            exact (h1.append h3).append h2
          have hargs := flat_args hfl.1 hl
          have harr : f' ++ xs.map a.eval ++ c' = (first.toList ++ vs ++ captured.toList).toArray := by rw [← hargs]
          simp only [execOp, ho, resolve, e1, Deferred.ofValue, invoke, Sem.run_bind, Sem.run_pure, Result.andThen_ok, harr, hs w]
        · cases he
      · exact plain2 _ _ he hg
    rw [if_pos hb]
    have hids : ∀ id, id ∈ argIds P hp (first.toList ++ vs ++ captured.toList) → id ∈ F := fun id hid => hF id (by
      unfold footA
      rw [ho]
      simp only [hf, hvs]
      exact hid)
    refine (hcall _ _ hids).mono fun r hr => ⟨hr.1, fun ν a w he hpre next Q hnx => ?_⟩
    obtain ⟨f', c', e1, h1, h2⟩ := func_VR (he f (by simp [ho, Op.operands, Call.operands]) _ hf)
    have h3 := vals_L2 (ν := ν) (a := a) hvs fun x hx v hv => he x (by simp [ho, Op.operands, Call.operands]; exact .inr (by simpa using hx)) v hv
    have hrun : (execOp a.eval o).run P w = .ok (.enter g (f' ++ xs.map a.eval ++ c')) w := by
      simp only [execOp, ho, resolve, e1, Deferred.ofValue, invoke, Sem.run_bind, Sem.run_pure, Result.andThen_ok, callFunc_run hN hb]
    have hl : L2 (VR ν) (first.toList ++ vs ++ captured.toList) (f' ++ xs.map a.eval ++ c').toList := by
      rw [Array.toList_append, Array.toList_append, Array.toList_map]
      exact (h1.append h3).append h2
    unfold Oper.wp
    rw [hrun, Oper.upon_enter]
    refine (hr.2 ν w _ hl hpre).mono ?_
    rintro e w' ⟨v', ν', rfl, k1, k2⟩
    exact hnx ν' v' w' k2 k1
  · exact Sat.stop
theorem footO {x : Operand} {v : Value} (hv : val fr x = some v) {id : Nat} (h : id ∈ idsV v) : id ∈ idsO fr x := by
  unfold idsO
  rw [hv]
  exact h
theorem opA_sat {call : CallF} (hN : Named P) (hcall : ∀ g args, (∀ id, id ∈ argIds P hp args → id ∈ F) → Sat (call g args hp) (CallOk P F g args hp)) (hF : ∀ id, id ∈ footA P fr hp o → id ∈ F) :
    Sat (opA P call fr hp o) (OpOk P F fr hp o) := by
  unfold opA
  split
  · rename_i x ho; exact move_sat (.inl ho)
  · rename_i x ho; exact move_sat (.inr ho)
  · rename_i c a b ho; exact pick_sat ho
  · rename_i e ho; exact alloc_sat ho
  · rename_i e x ho; exact box_sat ho
  · rename_i t x ho
    refine Sat.bind_lift fun v hv => load_sat ho hv fun id hid => hF id ?_
    unfold footA
    rw [ho]
    exact footO hv hid
  · rename_i t x y ho
    refine Sat.bind_lift fun av ha => Sat.bind_lift fun v hv => Sat.bind_chk fun hl => store_sat ho ha hv (fun id hid => hF id ?_) hl
    unfold footA
    rw [ho]
    exact footO ha hid
  · rename_i x ho; exact nil_sat ho
  · rename_i s x f ho; exact field_sat ho
  · rename_i t x i ho; exact index_sat ho
  · rename_i t x lo hi ho
    refine cut_sat ho fun v hv id hid => hF id ?_
    unfold footA
    rw [ho]
    exact footO hv hid
  · rename_i t x f ho; exact fieldv_sat ho
  · rename_i t x i ho; exact indexv_sat ho
  · rename_i x i ho; exact extract_sat ho
  · rename_i t ps ho; exact build_sat ho
  · rename_i t n ps ho; exact buildSlice_sat ho
  · rename_i t l c ho; exact makeSlice_sat ho
  · rename_i fn f c ho; exact func_sat ho
  · rename_i src dst x ho
    refine Sat.bind_lift fun v hv => conv_sat ho hv fun id hid => hF id ?_
    unfold footA
    rw [ho]
    exact footO hv hid
  · rename_i op t x y yt ho; exact bin_sat ho
  · rename_i xs ts ho
    refine Sat.bind_lift fun vs hvs => ?_
    split
    · rename_i s x t t2 h0 h1
      have hx : ∀ v, v = s ∨ v = x → ∀ id, id ∈ idsV v → id ∈ F := fun v hv id hid => hF id (by
        unfold footA
        rw [ho]
        obtain ⟨a, b, rfl, ha, hb⟩ := vals_two hvs
        rcases hv with rfl | rfl
        · exact List.mem_flatMap.2 ⟨a, by simp, footO ha hid⟩
        · exact List.mem_flatMap.2 ⟨b, by simp, footO hb hid⟩)
      split
      · rename_i e he; exact append_sat (as := ts) ho h0 h1 (.inl ⟨e, he⟩) hvs (hx s (.inl rfl)) (hx x (.inr rfl))
      · rename_i he; exact append_sat (as := ts) ho h0 h1 (.inr he) hvs (hx s (.inl rfl)) (hx x (.inr rfl))
      · exact Sat.stop
    · exact Sat.stop
  · rename_i xs ts ho
    refine Sat.bind_lift fun vs hvs => ?_
    split
    · rename_i s x t h0
      have hx : ∀ v, v = s ∨ v = x → ∀ id, id ∈ idsV v → id ∈ F := fun v hv id hid => hF id (by
        unfold footA
        rw [ho]
        obtain ⟨a, b, rfl, ha, hb⟩ := vals_two hvs
        rcases hv with rfl | rfl
        · exact List.mem_flatMap.2 ⟨a, by simp, footO ha hid⟩
        · exact List.mem_flatMap.2 ⟨b, by simp, footO hb hid⟩)
      exact copy_sat ho h0 hvs (hx s (.inl rfl)) (hx x (.inr rfl))
    · exact Sat.stop
  · rename_i xs ts ho; exact len_sat ho
  · rename_i f xs ts ho; exact callop_sat hN hcall ho hF
  · exact plain_sat
theorem opS_sat {call : CallF} (hN : Named P) (hcall : ∀ g args, (∀ id, id ∈ argIds P hp args → id ∈ F) → Sat (call g args hp) (CallOk P F g args hp)) (hF : ∀ id, id ∈ footA P fr hp o → id ∈ F) :
    Sat (opS P call fr hp o) (OpOk P F fr hp o) := by
  unfold opS
  refine Sat.bind (opA_sat hN hcall hF) fun r hr => Sat.map (Sat.see.mono fun u hu => ?_)
  subst hu
  exact hr
end
end Go.Proofs.Ytgbncncmoiadaaa.Ex
/- Operations one after the other. -/
namespace Go.Proofs.Ytgbncncmoiadaaa.Ex
open Go
set_option linter.unusedVariables false
set_option linter.unusedSimpArgs false
section
variable {P : Program} {F : List Nat} {fr : Fr} {hp : Hp} {o : Oper}
theorem Post.le {ν ν' : Nu} {w w' : World} {r : Res} (h : Pre P F ν hp w) (p : Post P F ν hp w r ν' w') : Le ν ν' := fun id N hN => by
  rcases Nat.lt_or_ge id hp.length with hl | hl
  · rw [p.same id hl]; exact hN
  · rw [h.dom id hl] at hN; cases hN
theorem Rep.pre {ν : Nu} {w : World} (h : Rep P ν hp w) (F : List Nat) : Pre P F ν hp w := ⟨h.dom, fun id _ => h.blk id, fun i j N K hij _ _ => h.sep i j N K hij⟩
theorem Inv.step {w0 : World} {ν0 : Nu} {m : Nat} {ν ν' : Nu} {wr : List Nat} {w w' : World} {r : Res} (h : Inv P w0 ν0 m ν hp wr w) (hs : Shape F hp r) (hF : ∀ id, id < hp.length → id ∈ F) (p : Post P F ν hp w r ν' w') :
    Inv P w0 ν0 m ν' r.hp (r.wr ++ wr) w' := by
  have all : ∀ id, id ∈ F ∨ hp.length ≤ id := fun id => by
    rcases Nat.lt_or_ge id hp.length with hl | hl
    · exact .inl (hF id hl)
    · exact .inr hl
  have hlen := h.len
  refine ⟨⟨p.dom, fun id => p.blk id (all id), fun i j N K hij => p.sep i j N K hij (all i) (all j)⟩, Nat.le_trans h.len hs.len, fun id hid => ?_, p.os.trans h.os, p.tape.trans h.tape, p.output.trans h.output, Nat.le_trans h.size p.size, fun g hg hfr => ?_, fun id N hid hl hN => ?_⟩
  · rw [p.same id (by omega), h.same id hid]
  · have h1 := h.frame g hg fun id N hid hw hN => hfr id N hid (by simp [hw]) hN
    rw [← h1]
    refine p.frame g (Nat.lt_of_lt_of_le hg h.size) fun id N hid hN => ?_
    rcases Nat.lt_or_ge id m with hm | hm
    · rw [h.same id hm] at hN
      exact hfr id N hm (by simp [hid]) hN
    · rcases h.fresh id N hm (own_live (hs.own id hid)) hN with k | ⟨j, K, k1, k2, k3, k4⟩
      · omega
      · rw [← k4]
        exact hfr j K k1 (by simp [k2]) k3
  · rcases Nat.lt_or_ge id hp.length with hlt | hge
    · rw [p.same id hlt] at hN
      have hl2 : (hp.getD id .dead).live = true := by
        by_cases c : id ∈ r.wr
        · exact own_live (hs.own id c)
        · rw [← hs.keep id hlt c]; exact hl
      rcases h.fresh id N hid hl2 hN with k | ⟨j, K, k1, k2, k3⟩
      · exact .inl k
      · exact .inr ⟨j, K, k1, by simp [k2], k3⟩
    · rcases p.fresh id N hge hl hN with k | ⟨j, K, k1, k2, k3⟩
      · exact .inl (Nat.le_trans h.size k)
      · rcases Nat.lt_or_ge j m with hm | hm
        · rw [h.same j hm] at k2
          exact .inr ⟨j, K, hm, by simp [k1], k2, k3⟩
        · rcases h.fresh j K hm (own_live (hs.own j k1)) k2 with q | ⟨i, M, q1, q2, q3, q4⟩
          · exact .inl (by omega)
          · exact .inr ⟨i, M, q1, by simp [q2], q3, q4.trans k3⟩
theorem FrRel.le {ν ν' : Nu} {tmps : Array Value} (hl : Le ν ν') (h : FrRel ν fr tmps) : FrRel ν' fr tmps :=
  ⟨h.1, fun t v hv => let ⟨v', h1, h2⟩ := h.2 t v hv; ⟨v', h1, h2.le hl⟩⟩
theorem FrRel.put {ν : Nu} {a : Act} {v v' : Value} {d : Option Tmp} (h : FrRel ν fr a.tmps) (hv : VR ν v v') : FrRel ν (putT fr d v) (a.put d v').tmps := by
  cases d with
  | none => exact h
  | some d =>
    refine ⟨by simp [putT, Act.put, Fr.set_n, h.1], fun t u hu => ?_⟩
    simp only [putT] at hu
    simp only [Act.put]
    by_cases c : d = t
    · subst c
      obtain ⟨hd, hu⟩ := Fr.get_set _ hu
      cases hu
      exact ⟨v', by simp [← h.1, hd], hv⟩
    · rw [Fr.get_ne _ _ c] at hu
      obtain ⟨u', h1, h2⟩ := h.2 t u hu
      exact ⟨u', by rw [Array.getElem?_setIfInBounds_ne c]; exact h1, h2⟩
theorem put_defers {a : Act} {d : Option Tmp} {v : Value} : (a.put d v).defers = a.defers := by cases d <;> rfl
theorem want_sat {ops : Array Oper} : Sat (wantA ops fr o) fun b => ∀ ν (tmps : Array Value), FrRel ν fr tmps → Region.wanted o (yielded ops tmps) = b := by
  unfold wantA
  split
  · rename_i hg
    exact Sat.ret _ fun ν tmps h => by simp [Region.wanted, hg]
  · rename_i j want hg
    split
    · rename_i hd
      exact Sat.ret _ fun ν tmps h => by simp [Region.wanted, hg, yielded, hd]
    · rename_i d hd
      split
      · rename_i b hb
        refine Sat.bind_ask (Sat.ret _ fun ν tmps h => ?_)
        obtain ⟨v', h1, h2⟩ := h.2 d _ hb
        have : v' = .bool b := h2
        subst this
        simp [Region.wanted, hg, yielded, hd, h1]
      · rename_i hb
        refine Sat.ret _ fun ν tmps h => ?_
        obtain ⟨v', h1, h2⟩ := h.2 d _ hb
        obtain ⟨cs', rfl, hl⟩ := h2
        simp [Region.wanted, hg, yielded, hd, h1]
      · exact Sat.stop
/-- What a callee's runner must do. -/
def Sound (P : Program) (call : CallF) : Prop := ∀ (F : List Nat) g args (hp : Hp), (∀ id, id ∈ argIds P hp args → id ∈ F) → Sat (call g args hp) (CallOk P F g args hp)
/-- Whatever stands for the frame and the heap: the list of operations ends as told. -/
def OpsSpec (P : Program) (all : Array Oper) (os : List Oper) (fr : Fr) (hp : Hp) (wr : List Nat) (fr' : Fr) (hp' : Hp) (wr' : List Nat) : Prop :=
  ∀ w0 ν0 m ν wx (a : Act) w (Q : Exit → Act → World → Prop), Inv P w0 ν0 m ν hp (wr ++ wx) w → FrRel ν fr a.tmps →
    (∀ ν' (a' : Act) w', Inv P w0 ν0 m ν' hp' (wr' ++ wx) w' → FrRel ν' fr' a'.tmps → a'.defers = a.defers → Q .normal a' w') → wpList P all Q os a w
theorem ops_sat {call : CallF} (hN : Named P) (hcall : Sound P call) {all : Array Oper} : ∀ (os : List Oper) (fr : Fr) (hp : Hp) (wr : List Nat) (st : List Step),
    Sat (opsA P call all os fr hp wr st) fun r => OpsSpec P all os fr hp wr r.1 r.2.1 r.2.2.1
  | [], fr, hp, wr, st => Sat.ret _ fun w0 ν0 m ν wx a w Q hi hfr hQ => hQ ν a w hi hfr rfl
  | o :: os, fr, hp, wr, st => by
    unfold opsA
    refine Sat.bind want_sat fun b hb => ?_
    split
    · rename_i hbt
      subst hbt
      have hop : Sat (opS P call fr hp o) (OpOk P (List.range hp.length ++ footA P fr hp o) fr hp o) :=
        opS_sat hN (fun g args hids => hcall _ g args hp hids) fun id hid => List.mem_append.2 (.inr hid)
      refine Sat.bind hop fun r hr => (ops_sat hN hcall os _ _ _ _).mono fun q hq => ?_
      intro w0 ν0 m ν wx a w Q hi hfr hQ
      unfold wpList
      rw [if_pos (hb ν a.tmps hfr)]
      refine .inl (hr.2 ν a w (fun x _ v hv => val_eval hfr hv) (hi.rep.pre _) _ _ fun ν' v' w' hp' hv' => ?_)
      have hi' := hi.step hr.1 (fun id hid => List.mem_append.2 (.inl (List.mem_range.2 hid))) hp'
      rw [← List.append_assoc] at hi'
      exact hq w0 ν0 m ν' wx _ w' Q hi' ((hfr.le (Post.le (hi.rep.pre _) hp')).put hv') fun ν2 a2 w2 k1 k2 k3 => hQ ν2 a2 w2 k1 k2 (k3.trans put_defers)
    · rename_i hbf
      have hbf : b = false := by simpa using hbf
      subst hbf
      refine (ops_sat hN hcall os _ _ _ _).mono fun q hq => ?_
      intro w0 ν0 m ν wx a w Q hi hfr hQ
      unfold wpList
      rw [if_neg (by rw [hb ν a.tmps hfr]; simp)]
      exact hq w0 ν0 m ν wx _ w Q hi (hfr.put ⟨#[], rfl, .nil⟩) fun ν2 a2 w2 k1 k2 k3 => hQ ν2 a2 w2 k1 k2 (k3.trans put_defers)
end
end Go.Proofs.Ytgbncncmoiadaaa.Ex
/- What is no more needed may be forgotten. -/
namespace Go.Proofs.Ytgbncncmoiadaaa.Ex
open Go
set_option linter.unusedVariables false
set_option linter.unusedSimpArgs false
section
variable {P : Program} {fr : Fr} {hp : Hp} {m : Nat}
/-- Only what is led to is kept. -/
theorem Inv.weaken {ids : List Nat} {w0 : World} {ν0 : Nu} {m : Nat} {ν : Nu} {wr : List Nat} {w : World} {hp2 : Hp} (hnd : ids.Nodup) (htk : ids.take m = List.range m)
    (hs : mapL (fun b => renB P (posIn ids) (hp.getD b .dead)) ids = some hp2) (h : Inv P w0 ν0 m ν hp wr w) :
    Kept (posIn ids) ν (fun j => (ids[j]?).bind ν) ∧ Inv P w0 ν0 m (fun j => (ids[j]?).bind ν) hp2 (wr.filter (· < m)) w := by
  have hsl := (mapL_L2 hs).len
  have hsub : ∀ j id, ids[j]? = some id → renB P (posIn ids) (hp.getD id .dead) = some (hp2.getD j .dead) := fun j id hj => by
    obtain ⟨b, k1, k2⟩ := (mapL_L2 hs).get j id hj
    rw [getD_of k1]
    exact k2
  have hids : ∀ j, j < ids.length → ∃ id, ids[j]? = some id := fun j hj => ⟨ids[j], by simp [hj]⟩
  have hidlt : ∀ j id, ids[j]? = some id → j < ids.length := fun j id hj => by
    rcases Nat.lt_or_ge j ids.length with h | h
    · exact h
    · rw [List.getElem?_eq_none h] at hj; cases hj
  have hinj : ∀ i j id, ids[i]? = some id → ids[j]? = some id → i = j := fun i j id hi hj => (List.getElem?_inj (hidlt i id hi) hnd).1 (hi.trans hj.symm)
  have hm : m ≤ ids.length := by
    have := congrArg List.length htk
    rw [List.length_take, List.length_range] at this
    omega
  have hfirst : ∀ j, j < m → ids[j]? = some j := fun j hj => by
    have h1 : (ids.take m)[j]? = some j := by rw [htk, List.getElem?_range hj]
    rw [List.getElem?_take, if_pos hj] at h1
    exact h1
  have e1 : ∀ (j id : Nat), ids[j]? = some id → (ids[j]?).bind ν = ν id := fun j id hj => by rw [hj]; rfl
  have hsub0 : ∀ j, ids.length ≤ j → hp2.getD j .dead = .dead := fun j hj => getD_out (by omega)
  have hk : Kept (posIn ids) ν (fun j => (ids[j]?).bind ν) := fun b j N hb hN => by
    show (ids[j]?).bind ν = _
    rw [e1 j b (posIn_some hb)]; exact hN
  refine ⟨hk, ⟨fun j hj => ?_, fun j => ?_, fun i j N K hij hi hj hN hK => ?_⟩, by omega, fun id hid => ?_, h.os, h.tape, h.output, h.size, fun g hg hfr => h.frame g hg fun id N hid hw hN => hfr id N hid (by simp [hw, hid]) hN, fun id N hid hl hN => ?_⟩
  · show (ids[j]?).bind ν = none
    rw [List.getElem?_eq_none (by omega)]
    rfl
  · rcases Nat.lt_or_ge j ids.length with hj | hj
    · obtain ⟨id, hid⟩ := hids j hj
      exact renB_ok hk (fun N hN => by show (ids[j]?).bind ν = _; rw [e1 j id hid]; exact hN) (hsub j id hid) (h.rep.blk id)
    · rw [hsub0 j hj]; trivial
  · have hi' : i < ids.length := by
      rcases Nat.lt_or_ge i ids.length with h | h
      · exact h
      · rw [hsub0 i h] at hi; cases hi
    have hj' : j < ids.length := by
      rcases Nat.lt_or_ge j ids.length with h | h
      · exact h
      · rw [hsub0 j h] at hj; cases hj
    obtain ⟨a, ha⟩ := hids i hi'
    obtain ⟨b, hb⟩ := hids j hj'
    rw [(renB_own (hsub i a ha)).1] at hi
    rw [(renB_own (hsub j b hb)).2] at hj
    replace hN : (ids[i]?).bind ν = some N := hN
    replace hK : (ids[j]?).bind ν = some K := hK
    rw [e1 i a ha] at hN
    rw [e1 j b hb] at hK
    exact h.rep.sep a b N K (fun e => hij (hinj i j a ha (by rw [e]; exact hb))) hi hj hN hK
  · show (ids[id]?).bind ν = _
    rw [e1 id id (hfirst id hid)]
    exact h.same id hid
  · rcases Nat.lt_or_ge id ids.length with hlt | hge
    · obtain ⟨b, hb⟩ := hids id hlt
      replace hN : (ids[id]?).bind ν = some N := hN
      rw [e1 id b hb] at hN
      rw [(renB_own (hsub id b hb)).2] at hl
      have hbm : m ≤ b := by
        rcases Nat.lt_or_ge b m with c | c
        · have := hinj id b b hb (hfirst b c)
          omega
        · exact c
      rcases h.fresh b N hbm hl hN with k | ⟨j, K, k1, k2, k3⟩
      · exact .inl k
      · exact .inr ⟨j, K, k1, by simp [k2, k1], k3⟩
    · rw [hsub0 id hge] at hl; cases hl
theorem Inv.wrs {w0 : World} {ν0 ν : Nu} {wr wr' : List Nat} {w : World} (h : Inv P w0 ν0 m ν hp wr w) (hw : ∀ j, j ∈ wr → j < m → j ∈ wr') : Inv P w0 ν0 m ν hp wr' w :=
  ⟨h.rep, h.len, h.same, h.os, h.tape, h.output, h.size, fun g hg hf => h.frame g hg fun id N hid hin hN => hf id N hid (hw id hin hid) hN, fun id N hid hl hN =>
    (h.fresh id N hid hl hN).imp (fun x => x) fun ⟨j, K, k1, k2, k3, k4⟩ => ⟨j, K, k1, hw j k2 k1, k3, k4⟩⟩
theorem keepT_get (fr : Fr) : ∀ (keep : List Nat) (t : Nat) (v : Value), (t, v) ∈ keepT fr keep → fr.get t = some v
  | [], t, v, h => by cases h
  | k :: r, t, v, h => by
    unfold keepT at h
    split at h
    · rename_i u hu
      rcases List.mem_cons.1 h with h | h
      · cases h; exact hu
      · exact keepT_get fr r t v h
    · exact keepT_get fr r t v h
theorem renF_ok {f : Nat → Option Nat} {ν ν1 : Nu} (hk : Kept f ν ν1) : ∀ {l l2 : List (Nat × Value)}, renF f l = some l2 → ∀ (t : Nat) v, (t, v) ∈ l2 → ∃ u, (t, u) ∈ l ∧ ∀ v', VR ν u v' → VR ν1 v v'
  | [], l2, h, t, v, hv => by
    simp only [renF, Option.some.injEq] at h
    subst h
    cases hv
  | (s, x) :: r, l2, h, t, v, hv => by
    simp only [renF] at h
    cases hx : ren f x with
    | none => rw [hx] at h; cases h
    | some x2 =>
      cases hr : renF f r with
      | none => rw [hx, hr] at h; cases h
      | some r2 =>
        rw [hx, hr] at h
        simp only [Option.map_some, Option.bind_some, Option.some.injEq] at h
        subst h
        rcases List.mem_cons.1 hv with hv | hv
        · cases hv
          exact ⟨x, List.mem_cons_self, fun v' hv' => ren_ok hk hx hv'⟩
        · obtain ⟨u, h1, h2⟩ := renF_ok hk hr t v hv
          exact ⟨u, List.mem_cons_of_mem _ h1, h2⟩
theorem tidy_inv {keep : List Nat} {o o2 : Out} (h : tidy P m keep o = some o2) : o2.ex = o.ex ∧ o2.wr = o.wr.filter (· < m) ∧
    ∀ {w0 : World} {ν0 ν : Nu} {wr : List Nat} {w : World} {tmps : Array Value}, Inv P w0 ν0 m ν o.hp wr w → FrRel ν o.fr tmps → ∃ ν', Inv P w0 ν0 m ν' o2.hp wr w ∧ FrRel ν' o2.fr tmps := by
  unfold tidy at h
  dsimp only at h
  revert h
  have hnd : (reach P o.hp deep (List.range m ++ frIds (keepT o.fr keep)) []).Nodup := reach_nodup _ _ _ (by simp)
  revert hnd
  generalize reach P o.hp deep (List.range m ++ frIds (keepT o.fr keep)) [] = ids
  intro hnd h
  cases hf : renF (posIn ids) (keepT o.fr keep) with
  | none => rw [hf] at h; cases h
  | some fr2 =>
    cases hs : mapL (fun b => renB P (posIn ids) (o.hp.getD b .dead)) ids with
    | none => rw [hf, hs] at h; cases h
    | some hp2 =>
      rw [hf, hs] at h
      simp only [Option.bind_some] at h
      split at h
      · rename_i htk
        cases h
        refine ⟨rfl, rfl, fun {w0 ν0 ν wr w tmps} hi hfr => ?_⟩
        obtain ⟨hk, hi2⟩ := Inv.weaken hnd htk hs hi
        refine ⟨_, hi2.wrs fun j hj _ => (List.mem_filter.1 hj).1, ?_⟩
        refine ⟨by rw [frOf_n]; exact hfr.1, fun t v hv => ?_⟩
        obtain ⟨u, k1, k2⟩ := renF_ok hk hf t v (frOf_get _ _ t v hv)
        obtain ⟨v', q1, q2⟩ := hfr.2 t u (keepT_get _ _ t u k1)
        exact ⟨v', q1, k2 v' q2⟩
      · cases h
end
end Go.Proofs.Ytgbncncmoiadaaa.Ex
/- Code: what a run tells is so. The regions whose order is drawn are taken as given here. -/
namespace Go.Proofs.Ytgbncncmoiadaaa.Ex
open Go
set_option linter.unusedVariables false
set_option linter.unusedSimpArgs false
section
variable {P : Program} {fr : Fr} {hp : Hp}
/-- Regions whose order is drawn may be run in the order of the text, where that is calm. -/
def Drawn (P : Program) (call : CallF) : Prop := ∀ (id m : Nat) (ops : Array Oper) (fr : Fr) (hp : Hp),
  calmS ops = true → Sat ((opsA P call ops ops.toList fr hp [] []).bind fun r => (chk (calm ops r.2.2.2)).bind fun _ => ret (⟨.normal, r.1, r.2.1, r.2.2.1⟩ : Out)) (CodeSpec P m (.region id ops true) fr hp)
theorem iter_sat {c : Code} {m : Nat} {f : Fr → Hp → M Out} (hf : ∀ fr hp, Sat (f fr hp) (CodeSpec P m c fr hp)) : ∀ (n : Nat) (fr : Fr) (hp : Hp) (wr : List Nat),
    Sat (iter f n fr hp wr) fun o => ∀ w0 ν0 ν wx (a : Act) w (Q : Exit → Act → World → Prop), Inv P w0 ν0 m ν hp (wr ++ wx) w → FrRel ν fr a.tmps →
      (∀ ν' (a' : Act) w', Inv P w0 ν0 m ν' o.hp (o.wr ++ wx) w' → FrRel ν' o.fr a'.tmps → a'.defers = a.defers → Q o.ex.of a' w') → Code.rounds P c Q n a w
  | 0, fr, hp, wr => Sat.stop
  | n + 1, fr, hp, wr => by
    unfold iter
    refine Sat.bind (hf fr hp) fun r hr => ?_
    split
    · rename_i he
      refine (iter_sat hf n _ _ _).mono fun o ho => ?_
      intro w0 ν0 ν wx a w Q hi hfr hQ
      rw [rounds_succ]
      refine hr w0 ν0 ν (wr ++ wx) a w _ hi hfr fun ν' a' w' k1 k2 k3 => ?_
      rw [he]
      rw [← List.append_assoc] at k1
      exact ho w0 ν0 ν' wx a' w' Q k1 k2 fun ν2 a2 w2 q1 q2 q3 => hQ ν2 a2 w2 q1 q2 (q3.trans k3)
    · rename_i he
      refine Sat.ret _ fun w0 ν0 ν wx a w Q hi hfr hQ => ?_
      rw [rounds_succ]
      refine hr w0 ν0 ν (wr ++ wx) a w _ hi hfr fun ν' a' w' k1 k2 k3 => ?_
      rw [← List.append_assoc] at k1
      have := hQ ν' a' w' k1 k2 k3
      revert this
      cases hx : r.ex with
      | normal => exact absurd hx he
      | exit j => exact id
      | ret => exact id
theorem run_sat {call : CallF} (hN : Named P) (hcall : Sound P call) (hD : Drawn P call) {m n : Nat} : ∀ (c : Code) (fr : Fr) (hp : Hp), calmC c = true → Sat (run P call m n c fr hp) (CodeSpec P m c fr hp)
  | .skip, fr, hp, _ => Sat.ret _ fun w0 ν0 ν wx a w Q hi hfr hQ => wp_skip (hQ ν a w hi hfr rfl)
  | .label _, fr, hp, _ => Sat.ret _ fun w0 ν0 ν wx a w Q hi hfr hQ => wp_label (hQ ν a w hi hfr rfl)
  | .region id ops false, fr, hp, _ => by
    unfold run
    refine Sat.bind (ops_sat hN hcall ops.toList fr hp [] []) fun r hr => Sat.bind_chk fun _ => Sat.ret _ ?_
    intro w0 ν0 ν wx a w Q hi hfr hQ
    exact wp_region_list (hr w0 ν0 m ν wx a w Q hi hfr fun ν' a' w' k1 k2 k3 => hQ ν' a' w' k1 k2 k3)
  | .region id ops true, fr, hp, hc => by
    unfold run
    exact hD id m ops fr hp (by simpa [calmC] using hc)
  | .seq x y, fr, hp, hc => by
    have hc : calmC x = true ∧ calmC y = true := by simpa [calmC] using hc
    unfold run
    refine Sat.bind (run_sat hN hcall hD x fr hp hc.1) fun r hr => ?_
    split
    · rename_i he
      refine Sat.map ((run_sat hN hcall hD y _ _ hc.2).mono fun q hq => ?_)
      intro w0 ν0 ν wx a w Q hi hfr hQ
      refine wp_seq (hr w0 ν0 ν wx a w _ hi hfr fun ν' a' w' k1 k2 k3 => ?_)
      rw [he]
      refine hq w0 ν0 ν' (r.wr ++ wx) a' w' Q k1 k2 fun ν2 a2 w2 q1 q2 q3 => hQ ν2 a2 w2 ?_ q2 (q3.trans k3)
      rw [← List.append_assoc] at q1
      exact q1
    · rename_i he
      refine Sat.ret _ ?_
      intro w0 ν0 ν wx a w Q hi hfr hQ
      refine wp_seq (hr w0 ν0 ν wx a w _ hi hfr fun ν' a' w' k1 k2 k3 => ?_)
      have := hQ ν' a' w' k1 k2 k3
      revert this
      cases hx : r.ex with
      | normal => exact absurd hx he
      | exit j => exact id
      | ret => exact id
  | .cond c x y, fr, hp, hc => by
    have hc : calmC x = true ∧ calmC y = true := by simpa [calmC] using hc
    have key : Sat ((lift (val fr c)).bind fun v => match v with
      | .bool b => (ask b).bind fun b => if b = true then run P call m n x fr hp else run P call m n y fr hp
      | _ => stop) (CodeSpec P m (.cond c x y) fr hp) := by
      refine Sat.bind_lift fun v hv => ?_
      split
      · rename_i b
        refine Sat.bind_ask ?_
        split
        · rename_i hb
          subst hb
          refine (run_sat hN hcall hD x fr hp hc.1).mono fun r hr => ?_
          intro w0 ν0 ν wx a w Q hi hfr hQ
          exact wp_cond_true (val_eval hfr hv) (hr w0 ν0 ν wx a w Q hi hfr hQ)
        · rename_i hb
          have hb : b = false := by simpa using hb
          subst hb
          refine (run_sat hN hcall hD y fr hp hc.2).mono fun r hr => ?_
          intro w0 ν0 ν wx a w Q hi hfr hQ
          exact wp_cond_false (val_eval hfr hv) (hr w0 ν0 ν wx a w Q hi hfr hQ)
      · exact Sat.stop
    unfold run
    intro o r he hg
    dsimp only at he
    split at he
    · rename_i keep q o'
      cases ht : tidy P m keep ⟨.normal, fr, hp, []⟩ with
      | none => rw [ht] at he; cases he
      | some t =>
        rw [ht] at he
        cases he
        have hs : CodeSpec P m (.cond c x y) t.fr t.hp q := hg.2 _ (List.mem_singleton.2 rfl)
        exact fun w0 ν0 ν wr a w Q hi hfr hQ => let ⟨ν', h1, h2⟩ := (tidy_inv ht).2.2 hi hfr; hs w0 ν0 ν' wr a w Q h1 h2 hQ
    · exact key _ _ he hg
  | .block id c, fr, hp, hc => by
    have hc : calmC c = true := by simpa [calmC] using hc
    unfold run
    refine Sat.map ((run_sat hN hcall hD c fr hp hc).mono fun r hr => ?_)
    intro w0 ν0 ν wx a w Q hi hfr hQ
    refine wp_block (hr w0 ν0 ν wx a w _ hi hfr fun ν' a' w' k1 k2 k3 => ?_)
    cases hx : r.ex with
    | normal =>
      simp only [hx] at hQ
      exact hQ ν' a' w' k1 k2 k3
    | ret =>
      simp only [hx] at hQ
      exact hQ ν' a' w' k1 k2 k3
    | exit j =>
      simp only [hx] at hQ
      show if j = id then Q .normal a' w' else Q (.exit j) a' w'
      split
      · rename_i hj
        rw [if_pos hj] at hQ
        exact hQ ν' a' w' k1 k2 k3
      · rename_i hj
        rw [if_neg hj] at hQ
        exact hQ ν' a' w' k1 k2 k3
  | .loop c, fr, hp, hc => by
    have hc : calmC c = true := by simpa [calmC] using hc
    have key : Sat (iter (run P call m n c) n fr hp []) (CodeSpec P m (.loop c) fr hp) :=
      (iter_sat (fun fr hp => run_sat hN hcall hD c fr hp hc) n fr hp []).mono fun r hr w0 ν0 ν wx a w Q hi hfr hQ => wp_loop_rounds n (hr w0 ν0 ν wx a w Q hi hfr hQ)
    unfold run
    intro o r he hg
    dsimp only at he
    split at he
    · rename_i keep q o'
      cases ht : tidy P m keep ⟨.normal, fr, hp, []⟩ with
      | none => rw [ht] at he; cases he
      | some t =>
        rw [ht] at he
        cases he
        have hs : CodeSpec P m (.loop c) t.fr t.hp q := hg.2 _ (List.mem_singleton.2 rfl)
        exact fun w0 ν0 ν wr a w Q hi hfr hQ => let ⟨ν', h1, h2⟩ := (tidy_inv ht).2.2 hi hfr; hs w0 ν0 ν' wr a w Q h1 h2 hQ
    · cases he
    · exact key _ _ he hg
    · exact key _ _ he hg
  | .exit id, fr, hp, _ => Sat.ret _ fun w0 ν0 ν wx a w Q hi hfr hQ => wp_exit (hQ ν a w hi hfr rfl)
  | .ret, fr, hp, _ => Sat.ret _ fun w0 ν0 ν wx a w Q hi hfr hQ => wp_ret (hQ ν a w hi hfr rfl)
  | .rangeFunc _ _ _ _, fr, hp, _ => Sat.stop
  | .scope _, fr, hp, _ => Sat.stop
  | .goto _, fr, hp, _ => Sat.stop
  | .refuse _, fr, hp, _ => Sat.stop
end
end Go.Proofs.Ytgbncncmoiadaaa.Ex
/- Whole functions. -/
namespace Go.Proofs.Ytgbncncmoiadaaa.Ex
open Go
set_option linter.unusedVariables false
set_option linter.unusedSimpArgs false
section
variable {P : Program} {fr : Fr} {hp : Hp}
theorem loadA_sat {t : TypeId} {v : Value} : Sat (loadA P hp t v) fun u => ∀ ν (w : World) v', Rep P ν hp w → VR ν v v' → ∃ ad u', v' = .pointer (some ad) ∧ (loadVar t ad).run P w = .ok u' w ∧ VR ν u u' := by
  unfold loadA
  split
  · rename_i b off
    refine Sat.bind_lift fun cs hc => Sat.bind_lift fun g hg => ?_
    cases g with
    | true =>
      rw [if_pos rfl]
      refine Sat.bind_lift fun n hn => Sat.bind_chk fun hle => Sat.ret _ fun ν w v' hr hv => ?_
      obtain ⟨N, h1, rfl⟩ := VR.ptr hv
      obtain ⟨N', h1', h2, _⟩ := load_ok (o := off) (hr.blk b) hc hg
      rw [h1] at h1'
      cases h1'
      obtain ⟨u', h3, h4⟩ := h2 rfl n hn (by simpa using hle)
      exact ⟨_, u', rfl, h3, h4⟩
    | false =>
      rw [if_neg Bool.false_ne_true]
      refine Sat.bind_chk fun hlt => Sat.asT.mono fun u hu ν w v' hr hv => ?_
      subst hu
      obtain ⟨N, h1, rfl⟩ := VR.ptr hv
      obtain ⟨N', h1', _, h2⟩ := load_ok (o := off) (hr.blk b) hc hg
      rw [h1] at h1'
      cases h1'
      obtain ⟨u', h3, h4⟩ := h2 rfl (by simpa using hlt)
      exact ⟨_, u', rfl, h3, h4⟩
  · exact Sat.stop
def resOf (tmps : Array Value) : ResultVar → Sem Value
  | .tmp t => pure (tmps.getD t undef)
  | .cell a t => do loadVar t (← asAddr (tmps.getD a undef))
theorem resA_sat : ∀ (rs : List ResultVar), Sat (resA P fr hp rs) fun vs => ∀ ν (tmps : Array Value) (w : World), Rep P ν hp w → FrRel ν fr tmps → ∃ vs', (rs.mapM (resOf tmps)).run P w = .ok vs' w ∧ L2 (VR ν) vs vs'
  | [] => Sat.ret _ fun ν tmps w _ _ => ⟨[], rfl, .nil⟩
  | .tmp t :: r => by
    unfold resA
    refine Sat.bind_lift fun v hv => Sat.map ((resA_sat r).mono fun vs hvs ν tmps w hr hf => ?_)
    obtain ⟨vs', h1, h2⟩ := hvs ν tmps w hr hf
    obtain ⟨v', h3, h4⟩ := hf.2 t v hv
    refine ⟨v' :: vs', ?_, .cons h4 h2⟩
    have : tmps.getD t undef = v' := by rw [Array.getD_eq_getD_getElem?, h3]; rfl
    simp only [List.mapM_cons, resOf, Sem.run_bind, Sem.run_pure, Result.andThen_ok, this, h1]
  | .cell x t :: r => by
    unfold resA
    refine Sat.bind_lift fun av hav => Sat.bind loadA_sat fun v hv => Sat.map ((resA_sat r).mono fun vs hvs ν tmps w hr hf => ?_)
    obtain ⟨vs', h1, h2⟩ := hvs ν tmps w hr hf
    obtain ⟨a', h3, h4⟩ := hf.2 x av hav
    obtain ⟨ad, u', rfl, h5, h6⟩ := hv ν w a' hr h4
    refine ⟨u' :: vs', ?_, .cons h6 h2⟩
    have : tmps.getD x undef = .pointer (some ad) := by rw [Array.getD_eq_getD_getElem?, h3]; rfl
    simp only [List.mapM_cons, resOf, Sem.run_bind, Sem.run_pure, Result.andThen_ok, this, asAddr, h5, h1]
theorem results_run {fn : Func} {tmps : Array Value} {w : World} {vs' : List Value} (h : (fn.results.toList.mapM (resOf tmps)).run P w = .ok vs' w) : (results fn tmps).run P w = .ok (tie vs') w := by
  change Sem.run P (do let vs ← fn.results.mapM (resOf tmps); pure (if h : vs.size = 1 then vs[0] else .tuple vs)) w = _
  rw [Array.mapM_eq_mapM_toList]
  simp only [Sem.run_bind, Sem.run_map, h, Result.andThen_ok, Sem.run_pure]
  congr 1
  match vs' with
  | [] => rfl
  | [v] => rfl
  | v :: u :: r => simp [tie]
theorem tie_VR {ν : Nu} {vs vs' : List Value} (h : L2 (VR ν) vs vs') (hl : vs.all lvlC = true) : VR ν (tie vs) (tie vs') := by
  have all : ∀ {vs vs' : List Value}, L2 (VR ν) vs vs' → vs.all lvlC = true → L2 (VRC ν) vs vs' := by
    intro vs vs' h
    induction h with
    | nil => intro _; exact .nil
    | cons a _ ih => intro hl; simp only [List.all_cons, Bool.and_eq_true] at hl; exact .cons (a.toC hl.1) (ih hl.2)
  match vs, vs', h with
  | [], _, .nil => exact ⟨#[], rfl, .nil⟩
  | [v], _, .cons a .nil => exact a
  | v :: u :: r, _, .cons a (.cons b c) => exact ⟨_, rfl, by simpa using all (.cons a (.cons b c)) hl⟩
theorem exec_sat (hN : Named P) (hC : Calm P) (hD : ∀ call, Sound P call → Drawn P call) : ∀ (n : Nat) (g : FuncId) (args : List Value) (hp : Hp), Sat (exec P n g args hp) (CallSpec P g args hp)
  | 0, g, args, hp => Sat.stop
  | n + 1, g, args, hp => by
    have told : ∀ g args hp, Sat (toldA P (exec P n) g args hp) (CallSpec P g args hp) := by
      intro g args hp o r he hg
      unfold toldA at he
      split at he
      · cases he
        exact hg.2 _ (by simp)
      · cases he
      · exact exec_sat hN hC hD n g args hp _ _ he hg
      · exact exec_sat hN hC hD n g args hp _ _ he hg
    have hS : Sound P (callA P (toldA P (exec P n))) := fun F g args hp hF => call_sat (fun args hp => told g args hp) hF
    unfold exec
    refine Sat.bind_lift fun fn hfn => Sat.bind_lift fun c hc => Sat.bind_chk fun hle => Sat.bind (run_sat hN hS (hD _ hS) c _ hp (hC _ _ _ hfn hc)) fun r hr => ?_
    have hle' : args.length ≤ fn.ntmps := of_decide_eq_true hle
    have key : (r.ex = .normal ∨ r.ex = .ret) → Sat ((resA P r.fr r.hp fn.results.toList).bind fun vs => (chk (vs.all lvlC)).bind fun _ => lift (outA P hp.length (tie vs) r.hp r.wr)) (CallSpec P g args hp) := by
      intro hex
      refine Sat.bind (resA_sat _) fun vs hvs => Sat.bind_chk fun hlc => Sat.lift fun q hq => ?_
      unfold outA at hq
      intro ν w args' hargs hrep
      dsimp only at hq
      revert hq
      have hnd : (reach P r.hp deep (List.range hp.length ++ idsV (tie vs)) []).Nodup := reach_nodup _ _ _ (by simp)
      revert hnd
      generalize reach P r.hp deep (List.range hp.length ++ idsV (tie vs)) [] = ids
      intro hnd hq
      cases hv : ren (posIn ids) (tie vs) with
      | none => rw [hv] at hq; cases hq
      | some v2 =>
        cases hs : mapL (fun b => renB P (posIn ids) (r.hp.getD b .dead)) ids with
        | none => rw [hv, hs] at hq; cases hq
        | some hp2 =>
          rw [hv, hs] at hq
          simp only [Option.bind_some] at hq
          split at hq
          · rename_i htk
            cases hq
            have hlen := hargs.len
            have hi0 : Inv P w ν hp.length ν hp ([] ++ []) w := ⟨hrep, Nat.le_refl _, fun _ _ => rfl, rfl, rfl, rfl, Nat.le_refl _, fun _ _ _ => rfl, fun id N hid _ hN => by rw [hrep.dom id hid] at hN; cases hN⟩
            refine calls_of_wp hfn hc (hr w ν ν [] _ w _ hi0 ?_ fun ν' a' w' k1 k2 k3 => ?_)
            · refine ⟨by unfold frame0; rw [frArgs_n]; simp [Fr.empty, ← hlen]; omega, fun t v hv => ?_⟩
              unfold frame0 at hv
              rcases frArgs_get _ _ _ _ _ hv with ⟨_, h0⟩ | h0
              · rw [Nat.sub_zero] at h0
                obtain ⟨u', h1, h2⟩ := hargs.get t v h0
                refine ⟨u', ?_, h2⟩
                have ht := (List.getElem?_eq_some_iff.1 h1).1
                rw [Array.getElem?_append_left (by simpa using ht)]
                simpa using h1
              · rw [Fr.empty_get] at h0
                cases h0
            · rw [List.append_nil] at k1
              obtain ⟨vs', h1, h2⟩ := hvs ν' a'.tmps w' k1.rep k2
              obtain ⟨hk, hi⟩ := Inv.weaken hnd htk hs k1
              have hfin : a'.defers = [] ∧ ∃ v, (results fn a'.tmps).run P w' = .ok v w' ∧ ∃ v' ν2, Ending.returned v = .returned v' ∧ VR ν2 v2 v' ∧ Inv P w ν hp.length ν2 hp2 (r.wr.filter (· < hp.length)) w' :=
                ⟨k3, tie vs', results_run h1, tie vs', _, rfl, ren_ok hk hv (tie_VR h2 hlc), hi⟩
              rcases hex with e | e
              · rw [e]; exact hfin
              · rw [e]; exact hfin
          · cases hq
    split
    · exact Sat.stop
    · rename_i he
      refine key ?_
      cases hx : r.ex with
      | normal => exact .inl rfl
      | ret => exact .inr rfl
      | exit j => exact absurd hx (he j)
end
end Go.Proofs.Ytgbncncmoiadaaa.Ex
