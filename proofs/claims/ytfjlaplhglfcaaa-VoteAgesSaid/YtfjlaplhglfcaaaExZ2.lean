/- Regions whose order is drawn: one more operation done, in the world. -/
import Derived.Test.YtfjlaplhglfcaaaExZ
namespace Go.Proofs.Ytfjlaplhglfcaaa.Ex
open Go
set_option linter.unusedVariables false
set_option linter.unusedSimpArgs false
section
variable {P : Program} {ops : Array Oper} {f : Nat → Fr} {h : Nat → Hp} {s : Nat → Step} {S : Nat → Bool} {i : Nat} {o : Oper} {r : Res} {w0 : World} {ν0 ν : Nu} {m : Nat} {wx : List Nat} {tmps : Array Value} {w : World}
theorem Next.seen (N : Next P ops f h s S i o r) (st : Stand P ops f h s w0 ν0 m wx S ν tmps w) : Seen ops (below ν (h i).length) (f i) tmps o := fun d v hd hv => by
  obtain ⟨h1, h2⟩ := N.tmp hd
  obtain ⟨v', h3, h4⟩ := st.tmp d v (h2.trans hv)
  exact ⟨v', h3, h4.le (below_mono (N.mono _ _ h1 (Nat.le_of_lt N.lt)))⟩
theorem Next.pre (N : Next P ops f h s S i o r) (st : Stand P ops f h s w0 ν0 m wx S ν tmps w) : Pre P (s i).rd (below ν (h i).length) (h i) w := by
  refine ⟨fun id hid => below_out hid, fun id hid => ?_, fun a b A B hab ha hb hoa hlb hA hB => ?_⟩
  · obtain ⟨h1, h2⟩ := N.blk hid
    have := st.blk id
    rw [h2] at this
    exact this.up (below_mono (N.mono _ _ h1 (Nat.le_of_lt N.lt)))
  · rw [← (N.blk ha).2] at hoa
    rw [← (N.blk hb).2] at hlb
    exact st.sep a b A B hab hoa hlb (below_le _ _ hA) (below_le _ _ hB)
end
end Go.Proofs.Ytfjlaplhglfcaaa.Ex
