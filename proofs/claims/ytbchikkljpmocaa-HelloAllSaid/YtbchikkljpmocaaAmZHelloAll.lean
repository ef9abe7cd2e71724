/- HelloAllSaid: whatever it is handed, 'gimmallaw10.HelloAll' returns true, and what it was handed reads as it did. Conditions: none. -/
import Derived.Test.YtbchikkljpmocaaRows
import Derived.Test.YtbchikkljpmocaaAmZ11
namespace Go.Proofs.Ytbchikkljpmocaa
open Go.AM
theorem helloAll_own : ownKnob Try.prog.godebug = none := by kernel_rfl
theorem helloAll_laid : laidOutB Try.prog = true := by kernel_rfl
theorem helloAll_den : ∀ xs : List D, TellArgs TT 8 Try.f9.params.toList xs → Den Try.prog 9 xs [] (.bool true) [] := by
  intro xs h
  rw [show Try.f9.params.toList = [23] by kernel_rfl] at h
  simp only [TellArgs] at h
  obtain ⟨x0, r0, rfl, h0, rfl⟩ := h
  obtain ⟨x0, rfl, t0⟩ := arg_ints h0
  exact law10_HelloAll x0 (by have := t0.1; unfold cap; omega)
set_option maxRecDepth 100000 in
theorem helloAll_lifted (os : Os) (started : os.Started) (H : Type) (enc : TypeId × Value → H) :
    ReturnsInHanded {} Try.checked os 9 .any (Rows.helloAllSpec.pre6 enc Try.prog Try.f9 Rows.helloAllRow.domain false) (Rows.helloAllSpec.post enc Try.prog Try.f9 false true false false) :=
  lift_law (C := Try.checked) tabOk 8 helloAll_own started (by kernel_rfl) Try.func9 helloAll_laid
    (ChangeSpec.witness6 (enc := enc) (C := Try.checked) false ⟨#[], #[(Value.slice none 0 0)], []⟩ 8 (by kernel_rfl) (by kernel_rfl) (by kernel_rfl) (by kernel_rfl))
    (by kernel_rfl) (by kernel_rfl) Try.underlying4 rfl (fun ds h => by
      have h : ds.length = 1 := h
      match ds, h with
      | [d0], _ => rfl)
    helloAll_den
theorem helloAll_over : Rows.helloAllRow.holds Try.pinned (OpenSpec.ofChange Rows.helloAllSpec) :=
  OpenClaim.holds_of_wide 9 Try.f9 rfl rfl rfl rfl rfl rfl rfl ⟨rfl, rfl, rfl, rfl, rfl⟩ rfl rfl rfl rfl rfl (by kernel_rfl) Try.func9 (by kernel_rfl)
    (of_decide_eq_true (by kernel_rfl)) (by unfold Func.isWrapper; first | (rw [if_pos (by decide +kernel)]; kernel_rfl) | (rw [if_neg (by decide +kernel)]; exact ⟨rfl, rfl⟩))
    (fun os started H enc _ => helloAll_lifted os started H enc)
/-- The row. -/
theorem helloAll_holds : Rows.HelloAllSaid := helloAll_over
#print axioms helloAll_holds
end Go.Proofs.Ytbchikkljpmocaa
