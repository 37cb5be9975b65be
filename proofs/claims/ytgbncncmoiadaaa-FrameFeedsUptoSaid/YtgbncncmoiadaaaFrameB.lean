/- The layer's own examples hold. -/
import Derived.Test.YtgbncncmoiadaaaFrameA
namespace Go.Proofs.Ytgbncncmoiadaaa.Ex
open Go
def heldB : ByteArray := ⟨#[0xfd, 0x02, 0x01, 0x02, 0x61]⟩
def payB : ByteArray := ⟨#[0x61, 0x62]⟩
def noB : ByteArray := ⟨#[]⟩
theorem awake_p : go (exec Try.prog 16 13 [] []) [(1346, .call ⟨.string heldB, [], []⟩), (1081, .call ⟨.string payB, [], []⟩), (160, .call ⟨.string noB, [], []⟩)] =
    some (⟨.bool true, [], []⟩, true, [CallSpec Try.prog 33 [.string heldB] [] ⟨.string heldB, [], []⟩, CallSpec Try.prog 33 [.string payB] [] ⟨.string payB, [], []⟩, CallSpec Try.prog 33 [.string noB] [] ⟨.string noB, [], []⟩]) := by kernel_rfl
theorem awake_ok : CallSpec Try.prog 13 [] [] ⟨.bool true, [], []⟩ :=
  go_ok (exec_ok tnamed tcalm tmixed _ _ _ _) awake_p (all_cons (clone_told (by decide)) (all_cons (clone_told (by decide)) (all_cons (clone_told (by decide)) all_nil)))
end Go.Proofs.Ytgbncncmoiadaaa.Ex
