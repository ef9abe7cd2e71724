/- HandleKnowsSaid: whatever it is handed, 'gimmallaw22.HandleKnows' returns true, and what it was handed reads as it did. Conditions: none. -/
import Derived.Test.YtehagcggdepajaaRows
import Derived.Test.YtehagcggdepajaaAmZ12
namespace Go.Proofs.Ytehagcggdepajaa
open Go.AM
theorem handleKnows_own : ownKnob Try.prog.godebug = none := by kernel_rfl
theorem handleKnows_laid : laidOutB Try.prog = true := by kernel_rfl
theorem handleKnows_den : ∀ xs : List D, TellArgs TT 8 Try.f6.params.toList xs → Den Try.prog 6 xs [] (.bool true) [] := by
  intro xs h
  rw [show Try.f6.params.toList = [30, 38] by kernel_rfl] at h
  simp only [TellArgs] at h
  obtain ⟨x0, r0, rfl, h0, x1, r1, rfl, h1, rfl⟩ := h
  obtain ⟨x0, rfl, t0⟩ := arg_Node h0
  obtain ⟨x1, rfl, t1⟩ := arg_Msg h1
  exact law22_HandleKnows x0 x1 t0.small t1.ids
set_option maxRecDepth 100000 in
theorem handleKnows_lifted (os : Os) (started : os.Started) (H : Type) (enc : TypeId × Value → H) :
    ReturnsInHanded {} Try.checked os 6 .any (Rows.handleKnowsSpec.pre6 enc Try.prog Try.f6 Rows.handleKnowsRow.domain false) (Rows.handleKnowsSpec.post enc Try.prog Try.f6 false true false false) :=
  lift_law (C := Try.checked) tabOk 8 handleKnows_own started (by kernel_rfl) Try.func6 handleKnows_laid
    (ChangeSpec.witness6 (enc := enc) (C := Try.checked) false ⟨#[], #[(Value.agg #[(Value.bool false), (Value.int IntKind.i64 0), (Value.slice none 0 0), (Value.slice none 0 0), (Value.slice none 0 0), (Value.slice none 0 0)]), (Value.agg #[(Value.int IntKind.i64 0), (Value.int IntKind.i64 0), (Value.int IntKind.i64 0), (Value.slice none 0 0), (Value.int IntKind.i64 0), (Value.int IntKind.i64 0), (Value.int IntKind.i64 0), (Value.int IntKind.i64 0), (Value.int IntKind.i64 0), (Value.bool false), (Value.bool false)])], []⟩ 8 (by kernel_rfl) (by kernel_rfl) (by kernel_rfl) (by kernel_rfl))
    (by kernel_rfl) (by kernel_rfl) Try.underlying4 rfl (fun ds h => by
      have h : ds.length = 2 := h
      match ds, h with
      | [d0, d1], _ => rfl)
    handleKnows_den
theorem handleKnows_over : Rows.handleKnowsRow.holds Try.pinned (OpenSpec.ofChange Rows.handleKnowsSpec) :=
  OpenClaim.holds_of_wide 6 Try.f6 rfl rfl rfl rfl rfl rfl rfl ⟨rfl, rfl, rfl, rfl, rfl⟩ rfl rfl rfl rfl rfl (by kernel_rfl) Try.func6 (by kernel_rfl)
    (of_decide_eq_true (by kernel_rfl)) (by unfold Func.isWrapper; first | (rw [if_pos (by decide +kernel)]; kernel_rfl) | (rw [if_neg (by decide +kernel)]; exact ⟨rfl, rfl⟩))
    (fun os started H enc _ => handleKnows_lifted os started H enc)
/-- The row. -/
theorem handleKnows_holds : Rows.HandleKnowsSaid := handleKnows_over
#print axioms handleKnows_holds
end Go.Proofs.Ytehagcggdepajaa
