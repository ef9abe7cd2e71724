/- WriteNewerSaid: whatever it is handed, 'gimmallaw17.WriteNewer' returns true, and what it was handed reads as it did. Conditions: none. -/
import Derived.Test.YtbchikkljpmocaaRows
import Derived.Test.YtbchikkljpmocaaAmZ11
namespace Go.Proofs.Ytbchikkljpmocaa
open Go.AM
theorem writeNewer_own : ownKnob Try.prog.godebug = none := by kernel_rfl
theorem writeNewer_laid : laidOutB Try.prog = true := by kernel_rfl
theorem writeNewer_den : ∀ xs : List D, TellArgs TT 8 Try.f12.params.toList xs → Den Try.prog 12 xs [] (.bool true) [] := by
  intro xs h
  rw [show Try.f12.params.toList = [52, 3, 3, 4] by kernel_rfl] at h
  simp only [TellArgs] at h
  obtain ⟨x0, r0, rfl, h0, x1, r1, rfl, h1, x2, r2, rfl, h2, x3, r3, rfl, h3, rfl⟩ := h
  obtain ⟨x0, rfl, t0⟩ := arg_Node h0
  obtain ⟨x1, rfl, t1⟩ := arg_int h1
  obtain ⟨x2, rfl, t2⟩ := arg_int h2
  obtain ⟨x3, rfl, t3⟩ := arg_bool h3
  exact law17_WriteNewer x0 x1 x2 x3 t0.small
set_option maxRecDepth 100000 in
theorem writeNewer_lifted (os : Os) (started : os.Started) (H : Type) (enc : TypeId × Value → H) :
    ReturnsInHanded {} Try.checked os 12 .any (Rows.writeNewerSpec.pre6 enc Try.prog Try.f12 Rows.writeNewerRow.domain false) (Rows.writeNewerSpec.post enc Try.prog Try.f12 false true false false) :=
  lift_law (C := Try.checked) tabOk 8 writeNewer_own started (by kernel_rfl) Try.func12 writeNewer_laid
    (ChangeSpec.witness6 (enc := enc) (C := Try.checked) false ⟨#[], #[(Value.agg #[(Value.bool false), (Value.int IntKind.i64 0), (Value.slice none 0 0), (Value.slice none 0 0), (Value.slice none 0 0), (Value.slice none 0 0)]), (Value.int IntKind.i64 0), (Value.int IntKind.i64 0), (Value.bool false)], []⟩ 8 (by kernel_rfl) (by kernel_rfl) (by kernel_rfl) (by kernel_rfl))
    (by kernel_rfl) (by kernel_rfl) Try.underlying4 rfl (fun ds h => by
      have h : ds.length = 4 := h
      match ds, h with
      | [d0, d1, d2, d3], _ => rfl)
    writeNewer_den
theorem writeNewer_over : Rows.writeNewerRow.holds Try.pinned (OpenSpec.ofChange Rows.writeNewerSpec) :=
  OpenClaim.holds_of_wide 12 Try.f12 rfl rfl rfl rfl rfl rfl rfl ⟨rfl, rfl, rfl, rfl, rfl⟩ rfl rfl rfl rfl rfl (by kernel_rfl) Try.func12 (by kernel_rfl)
    (of_decide_eq_true (by kernel_rfl)) (by unfold Func.isWrapper; first | (rw [if_pos (by decide +kernel)]; kernel_rfl) | (rw [if_neg (by decide +kernel)]; exact ⟨rfl, rfl⟩))
    (fun os started H enc _ => writeNewer_lifted os started H enc)
/-- The row. -/
theorem writeNewer_holds : Rows.WriteNewerSaid := writeNewer_over
#print axioms writeNewer_holds
end Go.Proofs.Ytbchikkljpmocaa
