/- StoreBestSaid: whatever it is handed, 'gimmallaw5.StoreBest' returns true, and what it was handed reads as it did. Conditions: none. -/
import Derived.Test.YtgcajdfmilhclaaRows
import Derived.Test.YtgcajdfmilhclaaAmZ11
namespace Go.Proofs.Ytgcajdfmilhclaa
open Go.AM
theorem storeBest_own : ownKnob Try.prog.godebug = none := by kernel_rfl
theorem storeBest_laid : laidOutB Try.prog = true := by kernel_rfl
theorem storeBest_den : ∀ xs : List D, TellArgs TT 8 Try.f5.params.toList xs → Den Try.prog 5 xs [] (.bool true) [] := by
  intro xs h
  rw [show Try.f5.params.toList = [22, 3] by kernel_rfl] at h
  simp only [TellArgs] at h
  obtain ⟨x0, r0, rfl, h0, x1, r1, rfl, h1, rfl⟩ := h
  obtain ⟨x0, rfl, t0⟩ := arg_items h0
  obtain ⟨x1, rfl, t1⟩ := arg_int h1
  exact law5_StoreBest x0 x1 (by have := t0.1; unfold cap16; omega) t1
set_option maxRecDepth 100000 in
theorem storeBest_lifted (os : Os) (started : os.Started) (H : Type) (enc : TypeId × Value → H) :
    ReturnsInHanded {} Try.checked os 5 .any (Rows.storeBestSpec.pre6 enc Try.prog Try.f5 Rows.storeBestRow.domain false) (Rows.storeBestSpec.post enc Try.prog Try.f5 false true false false) :=
  lift_law (C := Try.checked) tabOk 8 storeBest_own started (by kernel_rfl) Try.func5 storeBest_laid
    (ChangeSpec.witness6 (enc := enc) (C := Try.checked) false ⟨#[], #[(Value.slice none 0 0), (Value.int IntKind.i64 0)], []⟩ 8 (by kernel_rfl) (by kernel_rfl) (by kernel_rfl) (by kernel_rfl))
    (by kernel_rfl) (by kernel_rfl) Try.underlying4 rfl (fun ds h => by
      have h : ds.length = 2 := h
      match ds, h with
      | [d0, d1], _ => rfl)
    storeBest_den
theorem storeBest_over : Rows.storeBestRow.holds Try.pinned (OpenSpec.ofChange Rows.storeBestSpec) :=
  OpenClaim.holds_of_wide 5 Try.f5 rfl rfl rfl rfl rfl rfl rfl ⟨rfl, rfl, rfl, rfl, rfl⟩ rfl rfl rfl rfl rfl (by kernel_rfl) Try.func5 (by kernel_rfl)
    (of_decide_eq_true (by kernel_rfl)) (by unfold Func.isWrapper; first | (rw [if_pos (by decide +kernel)]; kernel_rfl) | (rw [if_neg (by decide +kernel)]; exact ⟨rfl, rfl⟩))
    (fun os started H enc _ => storeBest_lifted os started H enc)
/-- The row. -/
theorem storeBest_holds : Rows.StoreBestSaid := storeBest_over
#print axioms storeBest_holds
end Go.Proofs.Ytgcajdfmilhclaa
