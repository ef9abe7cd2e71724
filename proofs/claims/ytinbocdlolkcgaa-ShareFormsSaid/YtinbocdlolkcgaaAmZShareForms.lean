/- ShareFormsSaid: whatever it is handed, 'gimmallaw18.ShareForms' returns true, and what it was handed reads as it did. Conditions: none. -/
import Derived.Test.YtinbocdlolkcgaaRows
import Derived.Test.YtinbocdlolkcgaaAmZ10
namespace Go.Proofs.Ytinbocdlolkcgaa
open Go.AM
theorem shareForms_own : ownKnob Try.prog.godebug = none := by kernel_rfl
theorem shareForms_laid : laidOutB Try.prog = true := by kernel_rfl
theorem shareForms_den : ∀ xs : List D, TellArgs TT 8 Try.f11.params.toList xs → Den Try.prog 11 xs [] (.bool true) [] := by
  intro xs h
  rw [show Try.f11.params.toList = [3, 3] by kernel_rfl] at h
  simp only [TellArgs] at h
  obtain ⟨x0, r0, rfl, h0, x1, r1, rfl, h1, rfl⟩ := h
  obtain ⟨x0, rfl, t0⟩ := arg_int h0
  obtain ⟨x1, rfl, t1⟩ := arg_int h1
  exact law18_ShareForms x0 x1
set_option maxRecDepth 100000 in
theorem shareForms_lifted (os : Os) (started : os.Started) (H : Type) (enc : TypeId × Value → H) :
    ReturnsInHanded {} Try.checked os 11 .any (Rows.shareFormsSpec.pre6 enc Try.prog Try.f11 Rows.shareFormsRow.domain false) (Rows.shareFormsSpec.post enc Try.prog Try.f11 false true false false) :=
  lift_law (C := Try.checked) tabOk 8 shareForms_own started (by kernel_rfl) Try.func11 shareForms_laid
    (ChangeSpec.witness6 (enc := enc) (C := Try.checked) false ⟨#[], #[(Value.int IntKind.i64 0), (Value.int IntKind.i64 0)], []⟩ 8 (by kernel_rfl) (by kernel_rfl) (by kernel_rfl) (by kernel_rfl))
    (by kernel_rfl) (by kernel_rfl) Try.underlying4 rfl (fun ds h => by
      have h : ds.length = 2 := h
      match ds, h with
      | [d0, d1], _ => rfl)
    shareForms_den
theorem shareForms_over : Rows.shareFormsRow.holds Try.pinned (OpenSpec.ofChange Rows.shareFormsSpec) :=
  OpenClaim.holds_of_wide 11 Try.f11 rfl rfl rfl rfl rfl rfl rfl ⟨rfl, rfl, rfl, rfl, rfl⟩ rfl rfl rfl rfl rfl (by kernel_rfl) Try.func11 (by kernel_rfl)
    (of_decide_eq_true (by kernel_rfl)) (by unfold Func.isWrapper; first | (rw [if_pos (by decide +kernel)]; kernel_rfl) | (rw [if_neg (by decide +kernel)]; exact ⟨rfl, rfl⟩))
    (fun os started H enc _ => shareForms_lifted os started H enc)
/-- The row. -/
theorem shareForms_holds : Rows.ShareFormsSaid := shareForms_over
#print axioms shareForms_holds
end Go.Proofs.Ytinbocdlolkcgaa
