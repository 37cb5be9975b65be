/- The three facts of the program that the executor asks for. -/
import Derived.Test.YtfjlaplhglfcaaaExZ8
import Derived.KernelRfl
import Derived.IntWalk
import Derived.Test.YtfjlaplhglfcaaaChecked
namespace Go.Proofs.Ytfjlaplhglfcaaa.Ex
open Go
theorem tnamed : Named Try.prog := by
  have h : (Try.prog.funcs.toList.all fun fn => !(fn.name == "runtime.NumGoroutine")) = true := by kernel_rfl
  intro g fn hg
  have := List.all_eq_true.1 h fn (Array.mem_toList_iff.2 (Array.mem_of_getElem? hg))
  simpa using this
theorem tmixed : Try.prog.follows .mixedOrders = true := by kernel_rfl
def calmF (fn : Func) : Bool := match fn.body with | some c => calmC c | none => true
theorem tcalm : Calm Try.prog := by
  have h : (Try.prog.funcs.toList.all calmF) = true := by kernel_rfl
  intro g fn c hg hc
  have := List.all_eq_true.1 h fn (Array.mem_toList_iff.2 (Array.mem_of_getElem? hg))
  unfold calmF at this
  rw [hc] at this
  exact this
end Go.Proofs.Ytfjlaplhglfcaaa.Ex
