/- TakeFormsSaid: whatever it is handed, 'gimmallaw20.TakeForms' returns true, and what it was handed reads as it did. Conditions: none. -/
import Derived.Test.YtailjedmlkdcmaaRows
import Derived.Test.YtailjedmlkdcmaaAmZ12
namespace Go.Proofs.Ytailjedmlkdcmaa
open Go.AM
theorem takeForms_own : ownKnob Try.prog.godebug = none := by kernel_rfl
theorem takeForms_laid : laidOutB Try.prog = true := by kernel_rfl
theorem takeForms_den : ∀ xs : List D, TellArgs TT 8 Try.f10.params.toList xs → Den Try.prog 10 xs [] (.bool true) [] := by
  intro xs h
  rw [show Try.f10.params.toList = [3, 3] by kernel_rfl] at h
  simp only [TellArgs] at h
  obtain ⟨x0, r0, rfl, h0, x1, r1, rfl, h1, rfl⟩ := h
  obtain ⟨x0, rfl, t0⟩ := arg_int h0
  obtain ⟨x1, rfl, t1⟩ := arg_int h1
  exact law20_TakeForms x0 x1
set_option maxRecDepth 100000 in
theorem takeForms_lifted (os : Os) (started : os.Started) (H : Type) (enc : TypeId × Value → H) :
    ReturnsInHanded {} Try.checked os 10 .any (Rows.takeFormsSpec.pre6 enc Try.prog Try.f10 Rows.takeFormsRow.domain false) (Rows.takeFormsSpec.post enc Try.prog Try.f10 false true false false) :=
  lift_law (C := Try.checked) tabOk 8 takeForms_own started (by kernel_rfl) Try.func10 takeForms_laid
    (ChangeSpec.witness6 (enc := enc) (C := Try.checked) false ⟨#[], #[(Value.int IntKind.i64 0), (Value.int IntKind.i64 0)], []⟩ 8 (by kernel_rfl) (by kernel_rfl) (by kernel_rfl) (by kernel_rfl))
    (by kernel_rfl) (by kernel_rfl) Try.underlying4 rfl (fun ds h => by
      have h : ds.length = 2 := h
      match ds, h with
      | [d0, d1], _ => rfl)
    takeForms_den
theorem takeForms_over : Rows.takeFormsRow.holds Try.pinned (OpenSpec.ofChange Rows.takeFormsSpec) :=
  OpenClaim.holds_of_wide 10 Try.f10 rfl rfl rfl rfl rfl rfl rfl ⟨rfl, rfl, rfl, rfl, rfl⟩ rfl rfl rfl rfl rfl (by kernel_rfl) Try.func10 (by kernel_rfl)
    (of_decide_eq_true (by kernel_rfl)) (by unfold Func.isWrapper; first | (rw [if_pos (by decide +kernel)]; kernel_rfl) | (rw [if_neg (by decide +kernel)]; exact ⟨rfl, rfl⟩))
    (fun os started H enc _ => takeForms_lifted os started H enc)
/-- The row. -/
theorem takeForms_holds : Rows.TakeFormsSaid := takeForms_over
#print axioms takeForms_holds
end Go.Proofs.Ytailjedmlkdcmaa
