/- HelloFullSaid: whatever it is handed, 'gimmallaw10.HelloFull' returns true, and what it was handed reads as it did. Conditions: none. -/
import Derived.Test.YtbchikkljpmocaaRows
import Derived.Test.YtbchikkljpmocaaAmZ11
namespace Go.Proofs.Ytbchikkljpmocaa
open Go.AM
theorem helloFull_own : ownKnob Try.prog.godebug = none := by kernel_rfl
theorem helloFull_laid : laidOutB Try.prog = true := by kernel_rfl
theorem helloFull_den : ∀ xs : List D, TellArgs TT 8 Try.f6.params.toList xs → Den Try.prog 6 xs [] (.bool true) [] := by
  intro xs h
  rw [show Try.f6.params.toList = [3, 3] by kernel_rfl] at h
  simp only [TellArgs] at h
  obtain ⟨x0, r0, rfl, h0, x1, r1, rfl, h1, rfl⟩ := h
  obtain ⟨x0, rfl, t0⟩ := arg_int h0
  obtain ⟨x1, rfl, t1⟩ := arg_int h1
  exact law10_HelloFull x0 x1
set_option maxRecDepth 100000 in
theorem helloFull_lifted (os : Os) (started : os.Started) (H : Type) (enc : TypeId × Value → H) :
    ReturnsInHanded {} Try.checked os 6 .any (Rows.helloFullSpec.pre6 enc Try.prog Try.f6 Rows.helloFullRow.domain false) (Rows.helloFullSpec.post enc Try.prog Try.f6 false true false false) :=
  lift_law (C := Try.checked) tabOk 8 helloFull_own started (by kernel_rfl) Try.func6 helloFull_laid
    (ChangeSpec.witness6 (enc := enc) (C := Try.checked) false ⟨#[], #[(Value.int IntKind.i64 0), (Value.int IntKind.i64 0)], []⟩ 8 (by kernel_rfl) (by kernel_rfl) (by kernel_rfl) (by kernel_rfl))
    (by kernel_rfl) (by kernel_rfl) Try.underlying4 rfl (fun ds h => by
      have h : ds.length = 2 := h
      match ds, h with
      | [d0, d1], _ => rfl)
    helloFull_den
theorem helloFull_over : Rows.helloFullRow.holds Try.pinned (OpenSpec.ofChange Rows.helloFullSpec) :=
  OpenClaim.holds_of_wide 6 Try.f6 rfl rfl rfl rfl rfl rfl rfl ⟨rfl, rfl, rfl, rfl, rfl⟩ rfl rfl rfl rfl rfl (by kernel_rfl) Try.func6 (by kernel_rfl)
    (of_decide_eq_true (by kernel_rfl)) (by unfold Func.isWrapper; first | (rw [if_pos (by decide +kernel)]; kernel_rfl) | (rw [if_neg (by decide +kernel)]; exact ⟨rfl, rfl⟩))
    (fun os started H enc _ => helloFull_lifted os started H enc)
/-- The row. -/
theorem helloFull_holds : Rows.HelloFullSaid := helloFull_over
#print axioms helloFull_holds
end Go.Proofs.Ytbchikkljpmocaa
