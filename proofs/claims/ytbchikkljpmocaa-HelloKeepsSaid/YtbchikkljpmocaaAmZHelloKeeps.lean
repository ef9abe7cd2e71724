/- HelloKeepsSaid: whatever it is handed, 'gimmallaw10.HelloKeeps' returns true, and what it was handed reads as it did. Conditions: none. -/
import Derived.Test.YtbchikkljpmocaaRows
import Derived.Test.YtbchikkljpmocaaAmZ11
namespace Go.Proofs.Ytbchikkljpmocaa
open Go.AM
theorem helloKeeps_own : ownKnob Try.prog.godebug = none := by kernel_rfl
theorem helloKeeps_laid : laidOutB Try.prog = true := by kernel_rfl
theorem helloKeeps_den : ∀ xs : List D, TellArgs TT 8 Try.f4.params.toList xs → Den Try.prog 4 xs [] (.bool true) [] := by
  intro xs h
  rw [show Try.f4.params.toList = [25, 3, 23] by kernel_rfl] at h
  simp only [TellArgs] at h
  obtain ⟨x0, r0, rfl, h0, x1, r1, rfl, h1, x2, r2, rfl, h2, rfl⟩ := h
  obtain ⟨x0, rfl, t0⟩ := arg_View h0
  obtain ⟨x1, rfl, t1⟩ := arg_int h1
  obtain ⟨x2, rfl, t2⟩ := arg_ints h2
  exact law10_HelloKeeps x0 x1 x2 t0.small (by have := t2.1; unfold cap; omega)
set_option maxRecDepth 100000 in
theorem helloKeeps_lifted (os : Os) (started : os.Started) (H : Type) (enc : TypeId × Value → H) :
    ReturnsInHanded {} Try.checked os 4 .any (Rows.helloKeepsSpec.pre6 enc Try.prog Try.f4 Rows.helloKeepsRow.domain false) (Rows.helloKeepsSpec.post enc Try.prog Try.f4 false true false false) :=
  lift_law (C := Try.checked) tabOk 8 helloKeeps_own started (by kernel_rfl) Try.func4 helloKeeps_laid
    (ChangeSpec.witness6 (enc := enc) (C := Try.checked) false ⟨#[], #[(Value.agg #[(Value.int IntKind.i64 0), (Value.slice none 0 0), (Value.slice none 0 0)]), (Value.int IntKind.i64 0), (Value.slice none 0 0)], []⟩ 8 (by kernel_rfl) (by kernel_rfl) (by kernel_rfl) (by kernel_rfl))
    (by kernel_rfl) (by kernel_rfl) Try.underlying4 rfl (fun ds h => by
      have h : ds.length = 3 := h
      match ds, h with
      | [d0, d1, d2], _ => rfl)
    helloKeeps_den
theorem helloKeeps_over : Rows.helloKeepsRow.holds Try.pinned (OpenSpec.ofChange Rows.helloKeepsSpec) :=
  OpenClaim.holds_of_wide 4 Try.f4 rfl rfl rfl rfl rfl rfl rfl ⟨rfl, rfl, rfl, rfl, rfl⟩ rfl rfl rfl rfl rfl (by kernel_rfl) Try.func4 (by kernel_rfl)
    (of_decide_eq_true (by kernel_rfl)) (by unfold Func.isWrapper; first | (rw [if_pos (by decide +kernel)]; kernel_rfl) | (rw [if_neg (by decide +kernel)]; exact ⟨rfl, rfl⟩))
    (fun os started H enc _ => helloKeeps_lifted os started H enc)
/-- The row. -/
theorem helloKeeps_holds : Rows.HelloKeepsSaid := helloKeeps_over
#print axioms helloKeeps_holds
end Go.Proofs.Ytbchikkljpmocaa
