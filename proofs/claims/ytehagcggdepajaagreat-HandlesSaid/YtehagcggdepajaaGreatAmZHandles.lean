/- HandlesSaid: whatever it is handed, 'gimmallaw22.Handles' returns true, and what it was handed reads as it did. Conditions: none. -/
import Derived.Test.YtehagcggdepajaaGreatRows
import Derived.Test.YtehagcggdepajaaGreatAmZ13
namespace Go.Proofs.YtehagcggdepajaaGreat
open Go.AM
theorem handles_own : ownKnob Tryz.prog.godebug = none := by kernel_rfl
theorem handles_laid : laidOutB Tryz.prog = true := by kernel_rfl
theorem handles_den : ∀ xs : List D, TellArgs TT 8 Tryz.f6.params.toList xs → Den Tryz.prog 6 xs [] (.bool true) [] := by
  intro xs h
  rw [show Tryz.f6.params.toList = [42, 68] by kernel_rfl] at h
  simp only [TellArgs] at h
  obtain ⟨x0, r0, rfl, h0, x1, r1, rfl, h1, rfl⟩ := h
  obtain ⟨x0, rfl, t0⟩ := arg_Node h0
  obtain ⟨x1, rfl, t1⟩ := arg_Msg h1
  exact law22_Handles x0 x1 t0.small t1.ids
set_option maxRecDepth 100000 in
theorem handles_lifted (os : Os) (started : os.Started) (H : Type) (enc : TypeId × Value → H) :
    ReturnsInHanded {} Tryz.checked os 6 .any (Rows.handlesSpec.pre6 enc Tryz.prog Tryz.f6 Rows.handlesRow.domain false) (Rows.handlesSpec.post enc Tryz.prog Tryz.f6 false true false false) :=
  lift_law (C := Tryz.checked) tabOk 8 handles_own started (by kernel_rfl) Tryz.func6 handles_laid
    (ChangeSpec.witness6 (enc := enc) (C := Tryz.checked) false ⟨#[], #[(Value.agg #[(Value.bool false), (Value.int IntKind.i64 0), (Value.slice none 0 0), (Value.slice none 0 0), (Value.slice none 0 0), (Value.slice none 0 0)]), (Value.agg #[(Value.int IntKind.i64 0), (Value.int IntKind.i64 0), (Value.int IntKind.i64 0), (Value.slice none 0 0), (Value.int IntKind.i64 0), (Value.int IntKind.i64 0), (Value.int IntKind.i64 0), (Value.int IntKind.i64 0), (Value.int IntKind.i64 0), (Value.bool false), (Value.bool false)])], []⟩ 8 (by kernel_rfl) (by kernel_rfl) (by kernel_rfl) (by kernel_rfl))
    (by kernel_rfl) (by kernel_rfl) Tryz.underlying4 rfl (fun ds h => by
      have h : ds.length = 2 := h
      match ds, h with
      | [d0, d1], _ => rfl)
    handles_den
theorem handles_over : Rows.handlesRow.holds Tryz.pinned (OpenSpec.ofChange Rows.handlesSpec) :=
  OpenClaim.holds_of_wide 6 Tryz.f6 rfl rfl rfl rfl rfl rfl rfl ⟨rfl, rfl, rfl, rfl, rfl⟩ rfl rfl rfl rfl rfl (by kernel_rfl) Tryz.func6 (by kernel_rfl)
    (of_decide_eq_true (by kernel_rfl)) (by unfold Func.isWrapper; first | (rw [if_pos (by decide +kernel)]; kernel_rfl) | (rw [if_neg (by decide +kernel)]; exact ⟨rfl, rfl⟩))
    (fun os started H enc _ => handles_lifted os started H enc)
/-- The row. -/
theorem handles_holds : Rows.HandlesSaid := handles_over
#print axioms handles_holds
end Go.Proofs.YtehagcggdepajaaGreat
