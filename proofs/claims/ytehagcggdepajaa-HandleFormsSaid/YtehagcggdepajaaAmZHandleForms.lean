/- HandleFormsSaid: whatever it is handed, 'gimmallaw22.HandleForms' returns true, and what it was handed reads as it did. Conditions: none. -/
import Derived.Test.YtehagcggdepajaaRows
import Derived.Test.YtehagcggdepajaaAmZ11
namespace Go.Proofs.Ytehagcggdepajaa
open Go.AM
theorem handleForms_own : ownKnob Try.prog.godebug = none := by kernel_rfl
theorem handleForms_laid : laidOutB Try.prog = true := by kernel_rfl
theorem handleForms_den : ∀ xs : List D, TellArgs TT 8 Try.f3.params.toList xs → Den Try.prog 3 xs [] (.bool true) [] := by
  intro xs h
  rw [show Try.f3.params.toList = [3, 3] by kernel_rfl] at h
  simp only [TellArgs] at h
  obtain ⟨x0, r0, rfl, h0, x1, r1, rfl, h1, rfl⟩ := h
  obtain ⟨x0, rfl, t0⟩ := arg_int h0
  obtain ⟨x1, rfl, t1⟩ := arg_int h1
  exact law22_HandleForms x0 x1
set_option maxRecDepth 100000 in
theorem handleForms_lifted (os : Os) (started : os.Started) (H : Type) (enc : TypeId × Value → H) :
    ReturnsInHanded {} Try.checked os 3 .any (Rows.handleFormsSpec.pre6 enc Try.prog Try.f3 Rows.handleFormsRow.domain false) (Rows.handleFormsSpec.post enc Try.prog Try.f3 false true false false) :=
  lift_law (C := Try.checked) tabOk 8 handleForms_own started (by kernel_rfl) Try.func3 handleForms_laid
    (ChangeSpec.witness6 (enc := enc) (C := Try.checked) false ⟨#[], #[(Value.int IntKind.i64 0), (Value.int IntKind.i64 0)], []⟩ 8 (by kernel_rfl) (by kernel_rfl) (by kernel_rfl) (by kernel_rfl))
    (by kernel_rfl) (by kernel_rfl) Try.underlying4 rfl (fun ds h => by
      have h : ds.length = 2 := h
      match ds, h with
      | [d0, d1], _ => rfl)
    handleForms_den
theorem handleForms_over : Rows.handleFormsRow.holds Try.pinned (OpenSpec.ofChange Rows.handleFormsSpec) :=
  OpenClaim.holds_of_wide 3 Try.f3 rfl rfl rfl rfl rfl rfl rfl ⟨rfl, rfl, rfl, rfl, rfl⟩ rfl rfl rfl rfl rfl (by kernel_rfl) Try.func3 (by kernel_rfl)
    (of_decide_eq_true (by kernel_rfl)) (by unfold Func.isWrapper; first | (rw [if_pos (by decide +kernel)]; kernel_rfl) | (rw [if_neg (by decide +kernel)]; exact ⟨rfl, rfl⟩))
    (fun os started H enc _ => handleForms_lifted os started H enc)
/-- The row. -/
theorem handleForms_holds : Rows.HandleFormsSaid := handleForms_over
#print axioms handleForms_holds
end Go.Proofs.Ytehagcggdepajaa
