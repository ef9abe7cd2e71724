/- PassiveOtherSaid: whatever it is handed, 'gimmallaw8.PassiveOther' returns true, and what it was handed reads as it did. Conditions: none. -/
import Derived.Test.YtacnakkdfmldnaaRows
import Derived.Test.YtacnakkdfmldnaaAmZ11
namespace Go.Proofs.Ytacnakkdfmldnaa
open Go.AM
theorem passiveOther_own : ownKnob Try.prog.godebug = none := by kernel_rfl
theorem passiveOther_laid : laidOutB Try.prog = true := by kernel_rfl
theorem passiveOther_den : ∀ xs : List D, TellArgs TT 8 Try.f6.params.toList xs → Den Try.prog 6 xs [] (.bool true) [] := by
  intro xs h
  rw [show Try.f6.params.toList = [22, 3] by kernel_rfl] at h
  simp only [TellArgs] at h
  obtain ⟨x0, r0, rfl, h0, x1, r1, rfl, h1, rfl⟩ := h
  obtain ⟨x0, rfl, t0⟩ := arg_ints h0
  obtain ⟨x1, rfl, t1⟩ := arg_int h1
  exact law8_PassiveOther x0 x1 (by have := t0.1; unfold cap; omega)
set_option maxRecDepth 100000 in
theorem passiveOther_lifted (os : Os) (started : os.Started) (H : Type) (enc : TypeId × Value → H) :
    ReturnsInHanded {} Try.checked os 6 .any (Rows.passiveOtherSpec.pre6 enc Try.prog Try.f6 Rows.passiveOtherRow.domain false) (Rows.passiveOtherSpec.post enc Try.prog Try.f6 false true false false) :=
  lift_law (C := Try.checked) tabOk 8 passiveOther_own started (by kernel_rfl) Try.func6 passiveOther_laid
    (ChangeSpec.witness6 (enc := enc) (C := Try.checked) false ⟨#[], #[(Value.slice none 0 0), (Value.int IntKind.i64 0)], []⟩ 8 (by kernel_rfl) (by kernel_rfl) (by kernel_rfl) (by kernel_rfl))
    (by kernel_rfl) (by kernel_rfl) Try.underlying4 rfl (fun ds h => by
      have h : ds.length = 2 := h
      match ds, h with
      | [d0, d1], _ => rfl)
    passiveOther_den
theorem passiveOther_over : Rows.passiveOtherRow.holds Try.pinned (OpenSpec.ofChange Rows.passiveOtherSpec) :=
  OpenClaim.holds_of_wide 6 Try.f6 rfl rfl rfl rfl rfl rfl rfl ⟨rfl, rfl, rfl, rfl, rfl⟩ rfl rfl rfl rfl rfl (by kernel_rfl) Try.func6 (by kernel_rfl)
    (of_decide_eq_true (by kernel_rfl)) (by unfold Func.isWrapper; first | (rw [if_pos (by decide +kernel)]; kernel_rfl) | (rw [if_neg (by decide +kernel)]; exact ⟨rfl, rfl⟩))
    (fun os started H enc _ => passiveOther_lifted os started H enc)
/-- The row. -/
theorem passiveOther_holds : Rows.PassiveOtherSaid := passiveOther_over
#print axioms passiveOther_holds
end Go.Proofs.Ytacnakkdfmldnaa
