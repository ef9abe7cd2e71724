/- WriteRowSaid: whatever it is handed, 'gimmallaw17.WriteRow' returns true, and what it was handed reads as it did. Conditions: none. -/
import Derived.Test.YtbchikkljpmocaaRows
import Derived.Test.YtbchikkljpmocaaAmZ11
namespace Go.Proofs.Ytbchikkljpmocaa
open Go.AM
theorem writeRow_own : ownKnob Try.prog.godebug = none := by kernel_rfl
theorem writeRow_laid : laidOutB Try.prog = true := by kernel_rfl
theorem writeRow_den : ∀ xs : List D, TellArgs TT 8 Try.f14.params.toList xs → Den Try.prog 14 xs [] (.bool true) [] := by
  intro xs h
  rw [show Try.f14.params.toList = [23] by kernel_rfl] at h
  simp only [TellArgs] at h
  obtain ⟨x0, r0, rfl, h0, rfl⟩ := h
  obtain ⟨x0, rfl, t0⟩ := arg_ints h0
  exact law17_WriteRow x0 (by have := t0.1; unfold cap; omega)
set_option maxRecDepth 100000 in
theorem writeRow_lifted (os : Os) (started : os.Started) (H : Type) (enc : TypeId × Value → H) :
    ReturnsInHanded {} Try.checked os 14 .any (Rows.writeRowSpec.pre6 enc Try.prog Try.f14 Rows.writeRowRow.domain false) (Rows.writeRowSpec.post enc Try.prog Try.f14 false true false false) :=
  lift_law (C := Try.checked) tabOk 8 writeRow_own started (by kernel_rfl) Try.func14 writeRow_laid
    (ChangeSpec.witness6 (enc := enc) (C := Try.checked) false ⟨#[], #[(Value.slice none 0 0)], []⟩ 8 (by kernel_rfl) (by kernel_rfl) (by kernel_rfl) (by kernel_rfl))
    (by kernel_rfl) (by kernel_rfl) Try.underlying4 rfl (fun ds h => by
      have h : ds.length = 1 := h
      match ds, h with
      | [d0], _ => rfl)
    writeRow_den
theorem writeRow_over : Rows.writeRowRow.holds Try.pinned (OpenSpec.ofChange Rows.writeRowSpec) :=
  OpenClaim.holds_of_wide 14 Try.f14 rfl rfl rfl rfl rfl rfl rfl ⟨rfl, rfl, rfl, rfl, rfl⟩ rfl rfl rfl rfl rfl (by kernel_rfl) Try.func14 (by kernel_rfl)
    (of_decide_eq_true (by kernel_rfl)) (by unfold Func.isWrapper; first | (rw [if_pos (by decide +kernel)]; kernel_rfl) | (rw [if_neg (by decide +kernel)]; exact ⟨rfl, rfl⟩))
    (fun os started H enc _ => writeRow_lifted os started H enc)
/-- The row. -/
theorem writeRow_holds : Rows.WriteRowSaid := writeRow_over
#print axioms writeRow_holds
end Go.Proofs.Ytbchikkljpmocaa
