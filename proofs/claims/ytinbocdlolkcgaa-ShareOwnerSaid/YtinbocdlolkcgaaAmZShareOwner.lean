/- ShareOwnerSaid: whatever it is handed, 'gimmallaw18.ShareOwner' returns true, and what it was handed reads as it did. Conditions: none. -/
import Derived.Test.YtinbocdlolkcgaaRows
import Derived.Test.YtinbocdlolkcgaaAmZ10
namespace Go.Proofs.Ytinbocdlolkcgaa
open Go.AM
theorem shareOwner_own : ownKnob Try.prog.godebug = none := by kernel_rfl
theorem shareOwner_laid : laidOutB Try.prog = true := by kernel_rfl
theorem shareOwner_den : ∀ xs : List D, TellArgs TT 8 Try.f10.params.toList xs → Den Try.prog 10 xs [] (.bool true) [] := by
  intro xs h
  rw [show Try.f10.params.toList = [56] by kernel_rfl] at h
  simp only [TellArgs] at h
  obtain ⟨x0, r0, rfl, h0, rfl⟩ := h
  obtain ⟨x0, rfl, t0⟩ := arg_Node h0
  exact law18_ShareOwner x0 t0.small
set_option maxRecDepth 100000 in
theorem shareOwner_lifted (os : Os) (started : os.Started) (H : Type) (enc : TypeId × Value → H) :
    ReturnsInHanded {} Try.checked os 10 .any (Rows.shareOwnerSpec.pre6 enc Try.prog Try.f10 Rows.shareOwnerRow.domain false) (Rows.shareOwnerSpec.post enc Try.prog Try.f10 false true false false) :=
  lift_law (C := Try.checked) tabOk 8 shareOwner_own started (by kernel_rfl) Try.func10 shareOwner_laid
    (ChangeSpec.witness6 (enc := enc) (C := Try.checked) false ⟨#[], #[(Value.agg #[(Value.bool false), (Value.int IntKind.i64 0), (Value.slice none 0 0), (Value.slice none 0 0), (Value.slice none 0 0), (Value.slice none 0 0)])], []⟩ 8 (by kernel_rfl) (by kernel_rfl) (by kernel_rfl) (by kernel_rfl))
    (by kernel_rfl) (by kernel_rfl) Try.underlying4 rfl (fun ds h => by
      have h : ds.length = 1 := h
      match ds, h with
      | [d0], _ => rfl)
    shareOwner_den
theorem shareOwner_over : Rows.shareOwnerRow.holds Try.pinned (OpenSpec.ofChange Rows.shareOwnerSpec) :=
  OpenClaim.holds_of_wide 10 Try.f10 rfl rfl rfl rfl rfl rfl rfl ⟨rfl, rfl, rfl, rfl, rfl⟩ rfl rfl rfl rfl rfl (by kernel_rfl) Try.func10 (by kernel_rfl)
    (of_decide_eq_true (by kernel_rfl)) (by unfold Func.isWrapper; first | (rw [if_pos (by decide +kernel)]; kernel_rfl) | (rw [if_neg (by decide +kernel)]; exact ⟨rfl, rfl⟩))
    (fun os started H enc _ => shareOwner_lifted os started H enc)
/-- The row. -/
theorem shareOwner_holds : Rows.ShareOwnerSaid := shareOwner_over
#print axioms shareOwner_holds
end Go.Proofs.Ytinbocdlolkcgaa
