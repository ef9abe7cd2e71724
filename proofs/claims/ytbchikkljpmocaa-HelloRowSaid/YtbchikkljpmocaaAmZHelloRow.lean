/- HelloRowSaid: whatever it is handed, 'gimmallaw10.HelloRow' returns true, and what it was handed reads as it did. Conditions: none. -/
import Derived.Test.YtbchikkljpmocaaRows
import Derived.Test.YtbchikkljpmocaaAmZ11
namespace Go.Proofs.Ytbchikkljpmocaa
open Go.AM
theorem helloRow_own : ownKnob Try.prog.godebug = none := by kernel_rfl
theorem helloRow_laid : laidOutB Try.prog = true := by kernel_rfl
theorem helloRow_den : ∀ xs : List D, TellArgs TT 8 Try.f8.params.toList xs → Den Try.prog 8 xs [] (.bool true) [] := by
  intro xs h
  rw [show Try.f8.params.toList = [25, 3, 3, 23] by kernel_rfl] at h
  simp only [TellArgs] at h
  obtain ⟨x0, r0, rfl, h0, x1, r1, rfl, h1, x2, r2, rfl, h2, x3, r3, rfl, h3, rfl⟩ := h
  obtain ⟨x0, rfl, t0⟩ := arg_View h0
  obtain ⟨x1, rfl, t1⟩ := arg_int h1
  obtain ⟨x2, rfl, t2⟩ := arg_int h2
  obtain ⟨x3, rfl, t3⟩ := arg_ints h3
  exact law10_HelloRow x0 x1 x2 x3 t0.small (by have := t3.1; unfold cap; omega)
set_option maxRecDepth 100000 in
theorem helloRow_lifted (os : Os) (started : os.Started) (H : Type) (enc : TypeId × Value → H) :
    ReturnsInHanded {} Try.checked os 8 .any (Rows.helloRowSpec.pre6 enc Try.prog Try.f8 Rows.helloRowRow.domain false) (Rows.helloRowSpec.post enc Try.prog Try.f8 false true false false) :=
  lift_law (C := Try.checked) tabOk 8 helloRow_own started (by kernel_rfl) Try.func8 helloRow_laid
    (ChangeSpec.witness6 (enc := enc) (C := Try.checked) false ⟨#[], #[(Value.agg #[(Value.int IntKind.i64 0), (Value.slice none 0 0), (Value.slice none 0 0)]), (Value.int IntKind.i64 0), (Value.int IntKind.i64 0), (Value.slice none 0 0)], []⟩ 8 (by kernel_rfl) (by kernel_rfl) (by kernel_rfl) (by kernel_rfl))
    (by kernel_rfl) (by kernel_rfl) Try.underlying4 rfl (fun ds h => by
      have h : ds.length = 4 := h
      match ds, h with
      | [d0, d1, d2, d3], _ => rfl)
    helloRow_den
theorem helloRow_over : Rows.helloRowRow.holds Try.pinned (OpenSpec.ofChange Rows.helloRowSpec) :=
  OpenClaim.holds_of_wide 8 Try.f8 rfl rfl rfl rfl rfl rfl rfl ⟨rfl, rfl, rfl, rfl, rfl⟩ rfl rfl rfl rfl rfl (by kernel_rfl) Try.func8 (by kernel_rfl)
    (of_decide_eq_true (by kernel_rfl)) (by unfold Func.isWrapper; first | (rw [if_pos (by decide +kernel)]; kernel_rfl) | (rw [if_neg (by decide +kernel)]; exact ⟨rfl, rfl⟩))
    (fun os started H enc _ => helloRow_lifted os started H enc)
/-- The row. -/
theorem helloRow_holds : Rows.HelloRowSaid := helloRow_over
#print axioms helloRow_holds
end Go.Proofs.Ytbchikkljpmocaa
