/- WriteFormsSaid: whatever it is handed, 'gimmallaw17.WriteForms' returns true, and what it was handed reads as it did. Conditions: none. -/
import Derived.Test.YtbchikkljpmocaaRows
import Derived.Test.YtbchikkljpmocaaAmZ11
namespace Go.Proofs.Ytbchikkljpmocaa
open Go.AM
theorem writeForms_own : ownKnob Try.prog.godebug = none := by kernel_rfl
theorem writeForms_laid : laidOutB Try.prog = true := by kernel_rfl
theorem writeForms_den : ∀ xs : List D, TellArgs TT 8 Try.f11.params.toList xs → Den Try.prog 11 xs [] (.bool true) [] := by
  intro xs h
  rw [show Try.f11.params.toList = [3, 3] by kernel_rfl] at h
  simp only [TellArgs] at h
  obtain ⟨x0, r0, rfl, h0, x1, r1, rfl, h1, rfl⟩ := h
  obtain ⟨x0, rfl, t0⟩ := arg_int h0
  obtain ⟨x1, rfl, t1⟩ := arg_int h1
  exact law17_WriteForms x0 x1
set_option maxRecDepth 100000 in
theorem writeForms_lifted (os : Os) (started : os.Started) (H : Type) (enc : TypeId × Value → H) :
    ReturnsInHanded {} Try.checked os 11 .any (Rows.writeFormsSpec.pre6 enc Try.prog Try.f11 Rows.writeFormsRow.domain false) (Rows.writeFormsSpec.post enc Try.prog Try.f11 false true false false) :=
  lift_law (C := Try.checked) tabOk 8 writeForms_own started (by kernel_rfl) Try.func11 writeForms_laid
    (ChangeSpec.witness6 (enc := enc) (C := Try.checked) false ⟨#[], #[(Value.int IntKind.i64 0), (Value.int IntKind.i64 0)], []⟩ 8 (by kernel_rfl) (by kernel_rfl) (by kernel_rfl) (by kernel_rfl))
    (by kernel_rfl) (by kernel_rfl) Try.underlying4 rfl (fun ds h => by
      have h : ds.length = 2 := h
      match ds, h with
      | [d0, d1], _ => rfl)
    writeForms_den
theorem writeForms_over : Rows.writeFormsRow.holds Try.pinned (OpenSpec.ofChange Rows.writeFormsSpec) :=
  OpenClaim.holds_of_wide 11 Try.f11 rfl rfl rfl rfl rfl rfl rfl ⟨rfl, rfl, rfl, rfl, rfl⟩ rfl rfl rfl rfl rfl (by kernel_rfl) Try.func11 (by kernel_rfl)
    (of_decide_eq_true (by kernel_rfl)) (by unfold Func.isWrapper; first | (rw [if_pos (by decide +kernel)]; kernel_rfl) | (rw [if_neg (by decide +kernel)]; exact ⟨rfl, rfl⟩))
    (fun os started H enc _ => writeForms_lifted os started H enc)
/-- The row. -/
theorem writeForms_holds : Rows.WriteFormsSaid := writeForms_over
#print axioms writeForms_holds
end Go.Proofs.Ytbchikkljpmocaa
