/- ViewEndsSaid: whatever it is handed, 'gimmallaw9.ViewEnds' returns true, and what it was handed reads as it did. Conditions: none. -/
import Derived.Test.YtinbocdlolkcgaaRows
import Derived.Test.YtinbocdlolkcgaaAmZ9
namespace Go.Proofs.Ytinbocdlolkcgaa
open Go.AM
theorem viewEnds_own : ownKnob Try.prog.godebug = none := by kernel_rfl
theorem viewEnds_laid : laidOutB Try.prog = true := by kernel_rfl
theorem viewEnds_den : ∀ xs : List D, TellArgs TT 8 Try.f6.params.toList xs → Den Try.prog 6 xs [] (.bool true) [] := by
  intro xs h
  rw [show Try.f6.params.toList = [25] by kernel_rfl] at h
  simp only [TellArgs] at h
  obtain ⟨x0, r0, rfl, h0, rfl⟩ := h
  obtain ⟨x0, rfl, t0⟩ := arg_View h0
  exact law9_ViewEnds x0 t0.small
set_option maxRecDepth 100000 in
theorem viewEnds_lifted (os : Os) (started : os.Started) (H : Type) (enc : TypeId × Value → H) :
    ReturnsInHanded {} Try.checked os 6 .any (Rows.viewEndsSpec.pre6 enc Try.prog Try.f6 Rows.viewEndsRow.domain false) (Rows.viewEndsSpec.post enc Try.prog Try.f6 false true false false) :=
  lift_law (C := Try.checked) tabOk 8 viewEnds_own started (by kernel_rfl) Try.func6 viewEnds_laid
    (ChangeSpec.witness6 (enc := enc) (C := Try.checked) false ⟨#[], #[(Value.agg #[(Value.int IntKind.i64 0), (Value.slice none 0 0), (Value.slice none 0 0)])], []⟩ 8 (by kernel_rfl) (by kernel_rfl) (by kernel_rfl) (by kernel_rfl))
    (by kernel_rfl) (by kernel_rfl) Try.underlying4 rfl (fun ds h => by
      have h : ds.length = 1 := h
      match ds, h with
      | [d0], _ => rfl)
    viewEnds_den
theorem viewEnds_over : Rows.viewEndsRow.holds Try.pinned (OpenSpec.ofChange Rows.viewEndsSpec) :=
  OpenClaim.holds_of_wide 6 Try.f6 rfl rfl rfl rfl rfl rfl rfl ⟨rfl, rfl, rfl, rfl, rfl⟩ rfl rfl rfl rfl rfl (by kernel_rfl) Try.func6 (by kernel_rfl)
    (of_decide_eq_true (by kernel_rfl)) (by unfold Func.isWrapper; first | (rw [if_pos (by decide +kernel)]; kernel_rfl) | (rw [if_neg (by decide +kernel)]; exact ⟨rfl, rfl⟩))
    (fun os started H enc _ => viewEnds_lifted os started H enc)
/-- The row. -/
theorem viewEnds_holds : Rows.ViewEndsSaid := viewEnds_over
#print axioms viewEnds_holds
end Go.Proofs.Ytinbocdlolkcgaa
