/- WriteOtherSaid: whatever it is handed, 'gimmallaw17.WriteOther' returns true, and what it was handed reads as it did. Conditions: none. -/
import Derived.Test.YtbchikkljpmocaaRows
import Derived.Test.YtbchikkljpmocaaAmZ11
namespace Go.Proofs.Ytbchikkljpmocaa
open Go.AM
theorem writeOther_own : ownKnob Try.prog.godebug = none := by kernel_rfl
theorem writeOther_laid : laidOutB Try.prog = true := by kernel_rfl
theorem writeOther_den : ∀ xs : List D, TellArgs TT 8 Try.f13.params.toList xs → Den Try.prog 13 xs [] (.bool true) [] := by
  intro xs h
  rw [show Try.f13.params.toList = [52, 3, 3, 3] by kernel_rfl] at h
  simp only [TellArgs] at h
  obtain ⟨x0, r0, rfl, h0, x1, r1, rfl, h1, x2, r2, rfl, h2, x3, r3, rfl, h3, rfl⟩ := h
  obtain ⟨x0, rfl, t0⟩ := arg_Node h0
  obtain ⟨x1, rfl, t1⟩ := arg_int h1
  obtain ⟨x2, rfl, t2⟩ := arg_int h2
  obtain ⟨x3, rfl, t3⟩ := arg_int h3
  exact law17_WriteOther x0 x1 x2 x3 t0.small
set_option maxRecDepth 100000 in
theorem writeOther_lifted (os : Os) (started : os.Started) (H : Type) (enc : TypeId × Value → H) :
    ReturnsInHanded {} Try.checked os 13 .any (Rows.writeOtherSpec.pre6 enc Try.prog Try.f13 Rows.writeOtherRow.domain false) (Rows.writeOtherSpec.post enc Try.prog Try.f13 false true false false) :=
  lift_law (C := Try.checked) tabOk 8 writeOther_own started (by kernel_rfl) Try.func13 writeOther_laid
    (ChangeSpec.witness6 (enc := enc) (C := Try.checked) false ⟨#[], #[(Value.agg #[(Value.bool false), (Value.int IntKind.i64 0), (Value.slice none 0 0), (Value.slice none 0 0), (Value.slice none 0 0), (Value.slice none 0 0)]), (Value.int IntKind.i64 0), (Value.int IntKind.i64 0), (Value.int IntKind.i64 0)], []⟩ 8 (by kernel_rfl) (by kernel_rfl) (by kernel_rfl) (by kernel_rfl))
    (by kernel_rfl) (by kernel_rfl) Try.underlying4 rfl (fun ds h => by
      have h : ds.length = 4 := h
      match ds, h with
      | [d0, d1, d2, d3], _ => rfl)
    writeOther_den
theorem writeOther_over : Rows.writeOtherRow.holds Try.pinned (OpenSpec.ofChange Rows.writeOtherSpec) :=
  OpenClaim.holds_of_wide 13 Try.f13 rfl rfl rfl rfl rfl rfl rfl ⟨rfl, rfl, rfl, rfl, rfl⟩ rfl rfl rfl rfl rfl (by kernel_rfl) Try.func13 (by kernel_rfl)
    (of_decide_eq_true (by kernel_rfl)) (by unfold Func.isWrapper; first | (rw [if_pos (by decide +kernel)]; kernel_rfl) | (rw [if_neg (by decide +kernel)]; exact ⟨rfl, rfl⟩))
    (fun os started H enc _ => writeOther_lifted os started H enc)
/-- The row. -/
theorem writeOther_holds : Rows.WriteOtherSaid := writeOther_over
#print axioms writeOther_holds
end Go.Proofs.Ytbchikkljpmocaa
