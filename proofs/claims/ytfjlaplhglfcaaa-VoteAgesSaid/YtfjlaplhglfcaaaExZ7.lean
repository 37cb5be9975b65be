/- The executor is sound. -/
import Derived.Test.YtfjlaplhglfcaaaExZ6
namespace Go.Proofs.Ytfjlaplhglfcaaa.Ex
open Go
theorem exec_ok {P : Program} (hN : Named P) (hC : Calm P) (hm : P.follows .mixedOrders = true) (n : Nat) (g : FuncId) (args : List Value) (hp : Hp) : Sat (exec P n g args hp) (CallSpec P g args hp) :=
  exec_sat hN hC (fun _ hS => drawn_sat hN hm hS) n g args hp
theorem run_ok {P : Program} (hN : Named P) (hC : Calm P) (hm : P.follows .mixedOrders = true) (k m n : Nat) (c : Code) (fr : Fr) (hp : Hp) (hc : calmC c = true) : Sat (run P (callA P (toldA P (exec P k))) m n c fr hp) (CodeSpec P m c fr hp) := by
  have told : ∀ g args hp, Sat (toldA P (exec P k) g args hp) (CallSpec P g args hp) := by
    intro g args hp o r he hg
    unfold toldA at he
    split at he
    · cases he
      exact hg.2 _ (by simp)
    · cases he
    · exact exec_ok hN hC hm k g args hp _ _ he hg
    · exact exec_ok hN hC hm k g args hp _ _ he hg
  have hS : Sound P (callA P (toldA P (exec P k))) := fun F g args hp hF => call_sat (fun args hp => told g args hp) hF
  exact run_sat hN hS (drawn_sat hN hm hS) c fr hp hc
theorem go_ok {α : Type} {x : M α} {R : α → Prop} (hx : Sat x R) {orc : Orcs} {a : α} {owe : List Prop} (h : go x orc = some (a, true, owe)) (ho : ∀ p, p ∈ owe → p) : R a := by
  unfold go at h
  cases hr : x orc with
  | none => rw [hr] at h; cases h
  | some r =>
    rw [hr] at h
    simp only [Option.bind_some] at h
    split at h
    · simp only [Option.some.injEq, Prod.mk.injEq] at h
      obtain ⟨h1, h2, h3⟩ := h
      subst h1
      exact hx orc r hr ⟨h2, fun p hp => ho p (by rw [← h3]; exact hp)⟩
    · cases h
end Go.Proofs.Ytfjlaplhglfcaaa.Ex
