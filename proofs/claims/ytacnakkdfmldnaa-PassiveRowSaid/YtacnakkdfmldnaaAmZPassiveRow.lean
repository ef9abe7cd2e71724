/- PassiveRowSaid: whatever it is handed, 'gimmallaw8.PassiveRow' returns true, and what it was handed reads as it did. Conditions: none. -/
import Derived.Test.YtacnakkdfmldnaaRows
import Derived.Test.YtacnakkdfmldnaaAmZ11
namespace Go.Proofs.Ytacnakkdfmldnaa
open Go.AM
theorem passiveRow_own : ownKnob Try.prog.godebug = none := by kernel_rfl
theorem passiveRow_laid : laidOutB Try.prog = true := by kernel_rfl
theorem passiveRow_den : ∀ xs : List D, TellArgs TT 8 Try.f5.params.toList xs → Den Try.prog 5 xs [] (.bool true) [] := by
  intro xs h
  rw [show Try.f5.params.toList = [22] by kernel_rfl] at h
  simp only [TellArgs] at h
  obtain ⟨x0, r0, rfl, h0, rfl⟩ := h
  obtain ⟨x0, rfl, t0⟩ := arg_ints h0
  exact law8_PassiveRow x0 (by have := t0.1; unfold cap; omega)
set_option maxRecDepth 100000 in
theorem passiveRow_lifted (os : Os) (started : os.Started) (H : Type) (enc : TypeId × Value → H) :
    ReturnsInHanded {} Try.checked os 5 .any (Rows.passiveRowSpec.pre6 enc Try.prog Try.f5 Rows.passiveRowRow.domain false) (Rows.passiveRowSpec.post enc Try.prog Try.f5 false true false false) :=
  lift_law (C := Try.checked) tabOk 8 passiveRow_own started (by kernel_rfl) Try.func5 passiveRow_laid
    (ChangeSpec.witness6 (enc := enc) (C := Try.checked) false ⟨#[], #[(Value.slice none 0 0)], []⟩ 8 (by kernel_rfl) (by kernel_rfl) (by kernel_rfl) (by kernel_rfl))
    (by kernel_rfl) (by kernel_rfl) Try.underlying4 rfl (fun ds h => by
      have h : ds.length = 1 := h
      match ds, h with
      | [d0], _ => rfl)
    passiveRow_den
theorem passiveRow_over : Rows.passiveRowRow.holds Try.pinned (OpenSpec.ofChange Rows.passiveRowSpec) :=
  OpenClaim.holds_of_wide 5 Try.f5 rfl rfl rfl rfl rfl rfl rfl ⟨rfl, rfl, rfl, rfl, rfl⟩ rfl rfl rfl rfl rfl (by kernel_rfl) Try.func5 (by kernel_rfl)
    (of_decide_eq_true (by kernel_rfl)) (by unfold Func.isWrapper; first | (rw [if_pos (by decide +kernel)]; kernel_rfl) | (rw [if_neg (by decide +kernel)]; exact ⟨rfl, rfl⟩))
    (fun os started H enc _ => passiveRow_lifted os started H enc)
/-- The row. -/
theorem passiveRow_holds : Rows.PassiveRowSaid := passiveRow_over
#print axioms passiveRow_holds
end Go.Proofs.Ytacnakkdfmldnaa
