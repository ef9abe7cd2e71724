/- CutRowSaid: whatever it is handed, 'gimmallaw15.CutRow' returns true, and what it was handed reads as it did. Conditions: none. -/
import Derived.Test.YtgcajdfmilhclaaRows
import Derived.Test.YtgcajdfmilhclaaAmZ12
namespace Go.Proofs.Ytgcajdfmilhclaa
open Go.AM
theorem cutRow_own : ownKnob Try.prog.godebug = none := by kernel_rfl
theorem cutRow_laid : laidOutB Try.prog = true := by kernel_rfl
theorem cutRow_den : ∀ xs : List D, TellArgs TT 8 Try.f11.params.toList xs → Den Try.prog 11 xs [] (.bool true) [] := by
  intro xs h
  rw [show Try.f11.params.toList = [65] by kernel_rfl] at h
  simp only [TellArgs] at h
  obtain ⟨x0, r0, rfl, h0, rfl⟩ := h
  obtain ⟨x0, rfl, t0⟩ := arg_ints h0
  exact law15_CutRow x0 (by have := t0.1; unfold cap; omega)
set_option maxRecDepth 100000 in
theorem cutRow_lifted (os : Os) (started : os.Started) (H : Type) (enc : TypeId × Value → H) :
    ReturnsInHanded {} Try.checked os 11 .any (Rows.cutRowSpec.pre6 enc Try.prog Try.f11 Rows.cutRowRow.domain false) (Rows.cutRowSpec.post enc Try.prog Try.f11 false true false false) :=
  lift_law (C := Try.checked) tabOk 8 cutRow_own started (by kernel_rfl) Try.func11 cutRow_laid
    (ChangeSpec.witness6 (enc := enc) (C := Try.checked) false ⟨#[], #[(Value.slice none 0 0)], []⟩ 8 (by kernel_rfl) (by kernel_rfl) (by kernel_rfl) (by kernel_rfl))
    (by kernel_rfl) (by kernel_rfl) Try.underlying4 rfl (fun ds h => by
      have h : ds.length = 1 := h
      match ds, h with
      | [d0], _ => rfl)
    cutRow_den
theorem cutRow_over : Rows.cutRowRow.holds Try.pinned (OpenSpec.ofChange Rows.cutRowSpec) :=
  OpenClaim.holds_of_wide 11 Try.f11 rfl rfl rfl rfl rfl rfl rfl ⟨rfl, rfl, rfl, rfl, rfl⟩ rfl rfl rfl rfl rfl (by kernel_rfl) Try.func11 (by kernel_rfl)
    (of_decide_eq_true (by kernel_rfl)) (by unfold Func.isWrapper; first | (rw [if_pos (by decide +kernel)]; kernel_rfl) | (rw [if_neg (by decide +kernel)]; exact ⟨rfl, rfl⟩))
    (fun os started H enc _ => cutRow_lifted os started H enc)
/-- The row. -/
theorem cutRow_holds : Rows.CutRowSaid := cutRow_over
#print axioms cutRow_holds
end Go.Proofs.Ytgcajdfmilhclaa
