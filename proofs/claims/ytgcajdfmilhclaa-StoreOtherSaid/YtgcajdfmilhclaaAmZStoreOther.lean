/- StoreOtherSaid: whatever it is handed, 'gimmallaw5.StoreOther' returns true, and what it was handed reads as it did. Conditions: none. -/
import Derived.Test.YtgcajdfmilhclaaRows
import Derived.Test.YtgcajdfmilhclaaAmZ11
namespace Go.Proofs.Ytgcajdfmilhclaa
open Go.AM
theorem storeOther_own : ownKnob Try.prog.godebug = none := by kernel_rfl
theorem storeOther_laid : laidOutB Try.prog = true := by kernel_rfl
theorem storeOther_den : ∀ xs : List D, TellArgs TT 8 Try.f6.params.toList xs → Den Try.prog 6 xs [] (.bool true) [] := by
  intro xs h
  rw [show Try.f6.params.toList = [22, 26, 3] by kernel_rfl] at h
  simp only [TellArgs] at h
  obtain ⟨x0, r0, rfl, h0, x1, r1, rfl, h1, x2, r2, rfl, h2, rfl⟩ := h
  obtain ⟨x0, rfl, t0⟩ := arg_items h0
  obtain ⟨x1, rfl, t1⟩ := arg_Item h1
  obtain ⟨x2, rfl, t2⟩ := arg_int h2
  exact law5_StoreOther x0 x1 x2 (by have := t0.1; unfold cap16; omega)
set_option maxRecDepth 100000 in
theorem storeOther_lifted (os : Os) (started : os.Started) (H : Type) (enc : TypeId × Value → H) :
    ReturnsInHanded {} Try.checked os 6 .any (Rows.storeOtherSpec.pre6 enc Try.prog Try.f6 Rows.storeOtherRow.domain false) (Rows.storeOtherSpec.post enc Try.prog Try.f6 false true false false) :=
  lift_law (C := Try.checked) tabOk 8 storeOther_own started (by kernel_rfl) Try.func6 storeOther_laid
    (ChangeSpec.witness6 (enc := enc) (C := Try.checked) false ⟨#[], #[(Value.slice none 0 0), (Value.agg #[(Value.int IntKind.i64 0), (Value.int IntKind.i64 0), (Value.int IntKind.i64 0), (Value.int IntKind.i64 0), (Value.bool false)]), (Value.int IntKind.i64 0)], []⟩ 8 (by kernel_rfl) (by kernel_rfl) (by kernel_rfl) (by kernel_rfl))
    (by kernel_rfl) (by kernel_rfl) Try.underlying4 rfl (fun ds h => by
      have h : ds.length = 3 := h
      match ds, h with
      | [d0, d1, d2], _ => rfl)
    storeOther_den
theorem storeOther_over : Rows.storeOtherRow.holds Try.pinned (OpenSpec.ofChange Rows.storeOtherSpec) :=
  OpenClaim.holds_of_wide 6 Try.f6 rfl rfl rfl rfl rfl rfl rfl ⟨rfl, rfl, rfl, rfl, rfl⟩ rfl rfl rfl rfl rfl (by kernel_rfl) Try.func6 (by kernel_rfl)
    (of_decide_eq_true (by kernel_rfl)) (by unfold Func.isWrapper; first | (rw [if_pos (by decide +kernel)]; kernel_rfl) | (rw [if_neg (by decide +kernel)]; exact ⟨rfl, rfl⟩))
    (fun os started H enc _ => storeOther_lifted os started H enc)
/-- The row. -/
theorem storeOther_holds : Rows.StoreOtherSaid := storeOther_over
#print axioms storeOther_holds
end Go.Proofs.Ytgcajdfmilhclaa
