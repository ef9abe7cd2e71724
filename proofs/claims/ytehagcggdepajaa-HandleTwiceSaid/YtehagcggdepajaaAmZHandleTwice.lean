/- HandleTwiceSaid: whatever it is handed, 'gimmallaw22.HandleTwice' returns true, and what it was handed reads as it did. Conditions: none. -/
import Derived.Test.YtehagcggdepajaaRows
import Derived.Test.YtehagcggdepajaaAmZ12
namespace Go.Proofs.Ytehagcggdepajaa
open Go.AM
theorem handleTwice_own : ownKnob Try.prog.godebug = none := by kernel_rfl
theorem handleTwice_laid : laidOutB Try.prog = true := by kernel_rfl
theorem handleTwice_den : ∀ xs : List D, TellArgs TT 8 Try.f5.params.toList xs → Den Try.prog 5 xs [] (.bool true) [] := by
  intro xs h
  rw [show Try.f5.params.toList = [30, 38] by kernel_rfl] at h
  simp only [TellArgs] at h
  obtain ⟨x0, r0, rfl, h0, x1, r1, rfl, h1, rfl⟩ := h
  obtain ⟨x0, rfl, t0⟩ := arg_Node h0
  obtain ⟨x1, rfl, t1⟩ := arg_Msg h1
  exact law22_HandleTwice x0 x1 t0.small t1.ids
set_option maxRecDepth 100000 in
theorem handleTwice_lifted (os : Os) (started : os.Started) (H : Type) (enc : TypeId × Value → H) :
    ReturnsInHanded {} Try.checked os 5 .any (Rows.handleTwiceSpec.pre6 enc Try.prog Try.f5 Rows.handleTwiceRow.domain false) (Rows.handleTwiceSpec.post enc Try.prog Try.f5 false true false false) :=
  lift_law (C := Try.checked) tabOk 8 handleTwice_own started (by kernel_rfl) Try.func5 handleTwice_laid
    (ChangeSpec.witness6 (enc := enc) (C := Try.checked) false ⟨#[], #[(Value.agg #[(Value.bool false), (Value.int IntKind.i64 0), (Value.slice none 0 0), (Value.slice none 0 0), (Value.slice none 0 0), (Value.slice none 0 0)]), (Value.agg #[(Value.int IntKind.i64 0), (Value.int IntKind.i64 0), (Value.int IntKind.i64 0), (Value.slice none 0 0), (Value.int IntKind.i64 0), (Value.int IntKind.i64 0), (Value.int IntKind.i64 0), (Value.int IntKind.i64 0), (Value.int IntKind.i64 0), (Value.bool false), (Value.bool false)])], []⟩ 8 (by kernel_rfl) (by kernel_rfl) (by kernel_rfl) (by kernel_rfl))
    (by kernel_rfl) (by kernel_rfl) Try.underlying4 rfl (fun ds h => by
      have h : ds.length = 2 := h
      match ds, h with
      | [d0, d1], _ => rfl)
    handleTwice_den
theorem handleTwice_over : Rows.handleTwiceRow.holds Try.pinned (OpenSpec.ofChange Rows.handleTwiceSpec) :=
  OpenClaim.holds_of_wide 5 Try.f5 rfl rfl rfl rfl rfl rfl rfl ⟨rfl, rfl, rfl, rfl, rfl⟩ rfl rfl rfl rfl rfl (by kernel_rfl) Try.func5 (by kernel_rfl)
    (of_decide_eq_true (by kernel_rfl)) (by unfold Func.isWrapper; first | (rw [if_pos (by decide +kernel)]; kernel_rfl) | (rw [if_neg (by decide +kernel)]; exact ⟨rfl, rfl⟩))
    (fun os started H enc _ => handleTwice_lifted os started H enc)
/-- The row. -/
theorem handleTwice_holds : Rows.HandleTwiceSaid := handleTwice_over
#print axioms handleTwice_holds
end Go.Proofs.Ytehagcggdepajaa
