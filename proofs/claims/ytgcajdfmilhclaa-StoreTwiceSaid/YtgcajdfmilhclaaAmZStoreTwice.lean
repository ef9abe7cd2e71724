/- StoreTwiceSaid: whatever it is handed, 'gimmallaw5.StoreTwice' returns true, and what it was handed reads as it did. Conditions: none. -/
import Derived.Test.YtgcajdfmilhclaaRows
import Derived.Test.YtgcajdfmilhclaaAmZ11
namespace Go.Proofs.Ytgcajdfmilhclaa
open Go.AM
theorem storeTwice_own : ownKnob Try.prog.godebug = none := by kernel_rfl
theorem storeTwice_laid : laidOutB Try.prog = true := by kernel_rfl
theorem storeTwice_den : ∀ xs : List D, TellArgs TT 8 Try.f8.params.toList xs → Den Try.prog 8 xs [] (.bool true) [] := by
  intro xs h
  rw [show Try.f8.params.toList = [22, 26] by kernel_rfl] at h
  simp only [TellArgs] at h
  obtain ⟨x0, r0, rfl, h0, x1, r1, rfl, h1, rfl⟩ := h
  obtain ⟨x0, rfl, t0⟩ := arg_items h0
  obtain ⟨x1, rfl, t1⟩ := arg_Item h1
  exact law5_StoreTwice x0 x1 (by have := t0.1; unfold cap16; omega)
set_option maxRecDepth 100000 in
theorem storeTwice_lifted (os : Os) (started : os.Started) (H : Type) (enc : TypeId × Value → H) :
    ReturnsInHanded {} Try.checked os 8 .any (Rows.storeTwiceSpec.pre6 enc Try.prog Try.f8 Rows.storeTwiceRow.domain false) (Rows.storeTwiceSpec.post enc Try.prog Try.f8 false true false false) :=
  lift_law (C := Try.checked) tabOk 8 storeTwice_own started (by kernel_rfl) Try.func8 storeTwice_laid
    (ChangeSpec.witness6 (enc := enc) (C := Try.checked) false ⟨#[], #[(Value.slice none 0 0), (Value.agg #[(Value.int IntKind.i64 0), (Value.int IntKind.i64 0), (Value.int IntKind.i64 0), (Value.int IntKind.i64 0), (Value.bool false)])], []⟩ 8 (by kernel_rfl) (by kernel_rfl) (by kernel_rfl) (by kernel_rfl))
    (by kernel_rfl) (by kernel_rfl) Try.underlying4 rfl (fun ds h => by
      have h : ds.length = 2 := h
      match ds, h with
      | [d0, d1], _ => rfl)
    storeTwice_den
theorem storeTwice_over : Rows.storeTwiceRow.holds Try.pinned (OpenSpec.ofChange Rows.storeTwiceSpec) :=
  OpenClaim.holds_of_wide 8 Try.f8 rfl rfl rfl rfl rfl rfl rfl ⟨rfl, rfl, rfl, rfl, rfl⟩ rfl rfl rfl rfl rfl (by kernel_rfl) Try.func8 (by kernel_rfl)
    (of_decide_eq_true (by kernel_rfl)) (by unfold Func.isWrapper; first | (rw [if_pos (by decide +kernel)]; kernel_rfl) | (rw [if_neg (by decide +kernel)]; exact ⟨rfl, rfl⟩))
    (fun os started H enc _ => storeTwice_lifted os started H enc)
/-- The row. -/
theorem storeTwice_holds : Rows.StoreTwiceSaid := storeTwice_over
#print axioms storeTwice_holds
end Go.Proofs.Ytgcajdfmilhclaa
