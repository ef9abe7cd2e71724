/- StoreMergeSaid: whatever it is handed, 'gimmallaw5.StoreMerge' returns true, and what it was handed reads as it did. Conditions: none. -/
import Derived.Test.YtgcajdfmilhclaaRows
import Derived.Test.YtgcajdfmilhclaaAmZ11
namespace Go.Proofs.Ytgcajdfmilhclaa
open Go.AM
theorem storeMerge_own : ownKnob Try.prog.godebug = none := by kernel_rfl
theorem storeMerge_laid : laidOutB Try.prog = true := by kernel_rfl
theorem storeMerge_den : ∀ xs : List D, TellArgs TT 8 Try.f7.params.toList xs → Den Try.prog 7 xs [] (.bool true) [] := by
  intro xs h
  rw [show Try.f7.params.toList = [22, 22] by kernel_rfl] at h
  simp only [TellArgs] at h
  obtain ⟨x0, r0, rfl, h0, x1, r1, rfl, h1, rfl⟩ := h
  obtain ⟨x0, rfl, t0⟩ := arg_items h0
  obtain ⟨x1, rfl, t1⟩ := arg_items h1
  exact law5_StoreMerge x0 x1 (by have := t0.1; unfold cap16; omega) (by have := t1.1; unfold cap16; omega)
set_option maxRecDepth 100000 in
theorem storeMerge_lifted (os : Os) (started : os.Started) (H : Type) (enc : TypeId × Value → H) :
    ReturnsInHanded {} Try.checked os 7 .any (Rows.storeMergeSpec.pre6 enc Try.prog Try.f7 Rows.storeMergeRow.domain false) (Rows.storeMergeSpec.post enc Try.prog Try.f7 false true false false) :=
  lift_law (C := Try.checked) tabOk 8 storeMerge_own started (by kernel_rfl) Try.func7 storeMerge_laid
    (ChangeSpec.witness6 (enc := enc) (C := Try.checked) false ⟨#[], #[(Value.slice none 0 0), (Value.slice none 0 0)], []⟩ 8 (by kernel_rfl) (by kernel_rfl) (by kernel_rfl) (by kernel_rfl))
    (by kernel_rfl) (by kernel_rfl) Try.underlying4 rfl (fun ds h => by
      have h : ds.length = 2 := h
      match ds, h with
      | [d0, d1], _ => rfl)
    storeMerge_den
theorem storeMerge_over : Rows.storeMergeRow.holds Try.pinned (OpenSpec.ofChange Rows.storeMergeSpec) :=
  OpenClaim.holds_of_wide 7 Try.f7 rfl rfl rfl rfl rfl rfl rfl ⟨rfl, rfl, rfl, rfl, rfl⟩ rfl rfl rfl rfl rfl (by kernel_rfl) Try.func7 (by kernel_rfl)
    (of_decide_eq_true (by kernel_rfl)) (by unfold Func.isWrapper; first | (rw [if_pos (by decide +kernel)]; kernel_rfl) | (rw [if_neg (by decide +kernel)]; exact ⟨rfl, rfl⟩))
    (fun os started H enc _ => storeMerge_lifted os started H enc)
/-- The row. -/
theorem storeMerge_holds : Rows.StoreMergeSaid := storeMerge_over
#print axioms storeMerge_holds
end Go.Proofs.Ytgcajdfmilhclaa
