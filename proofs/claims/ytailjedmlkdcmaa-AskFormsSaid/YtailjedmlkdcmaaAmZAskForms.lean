/- AskFormsSaid: whatever it is handed, 'gimmallaw21.AskForms' returns true, and what it was handed reads as it did. Conditions: none. -/
import Derived.Test.YtailjedmlkdcmaaRows
import Derived.Test.YtailjedmlkdcmaaAmZ11
namespace Go.Proofs.Ytailjedmlkdcmaa
open Go.AM
theorem askForms_own : ownKnob Try.prog.godebug = none := by kernel_rfl
theorem askForms_laid : laidOutB Try.prog = true := by kernel_rfl
theorem askForms_den : ∀ xs : List D, TellArgs TT 8 Try.f4.params.toList xs → Den Try.prog 4 xs [] (.bool true) [] := by
  intro xs h
  rw [show Try.f4.params.toList = [3, 3] by kernel_rfl] at h
  simp only [TellArgs] at h
  obtain ⟨x0, r0, rfl, h0, x1, r1, rfl, h1, rfl⟩ := h
  obtain ⟨x0, rfl, t0⟩ := arg_int h0
  obtain ⟨x1, rfl, t1⟩ := arg_int h1
  exact law21_AskForms x0 x1
set_option maxRecDepth 100000 in
theorem askForms_lifted (os : Os) (started : os.Started) (H : Type) (enc : TypeId × Value → H) :
    ReturnsInHanded {} Try.checked os 4 .any (Rows.askFormsSpec.pre6 enc Try.prog Try.f4 Rows.askFormsRow.domain false) (Rows.askFormsSpec.post enc Try.prog Try.f4 false true false false) :=
  lift_law (C := Try.checked) tabOk 8 askForms_own started (by kernel_rfl) Try.func4 askForms_laid
    (ChangeSpec.witness6 (enc := enc) (C := Try.checked) false ⟨#[], #[(Value.int IntKind.i64 0), (Value.int IntKind.i64 0)], []⟩ 8 (by kernel_rfl) (by kernel_rfl) (by kernel_rfl) (by kernel_rfl))
    (by kernel_rfl) (by kernel_rfl) Try.underlying4 rfl (fun ds h => by
      have h : ds.length = 2 := h
      match ds, h with
      | [d0, d1], _ => rfl)
    askForms_den
theorem askForms_over : Rows.askFormsRow.holds Try.pinned (OpenSpec.ofChange Rows.askFormsSpec) :=
  OpenClaim.holds_of_wide 4 Try.f4 rfl rfl rfl rfl rfl rfl rfl ⟨rfl, rfl, rfl, rfl, rfl⟩ rfl rfl rfl rfl rfl (by kernel_rfl) Try.func4 (by kernel_rfl)
    (of_decide_eq_true (by kernel_rfl)) (by unfold Func.isWrapper; first | (rw [if_pos (by decide +kernel)]; kernel_rfl) | (rw [if_neg (by decide +kernel)]; exact ⟨rfl, rfl⟩))
    (fun os started H enc _ => askForms_lifted os started H enc)
/-- The row. -/
theorem askForms_holds : Rows.AskFormsSaid := askForms_over
#print axioms askForms_holds
end Go.Proofs.Ytailjedmlkdcmaa
