/- StoresSaid: whatever it is handed, 'gimmallaw5.Stores' returns true, and what it was handed reads as it did. Conditions: none. -/
import Derived.Test.YtgcajdfmilhclaaRows
import Derived.Test.YtgcajdfmilhclaaAmZ11
namespace Go.Proofs.Ytgcajdfmilhclaa
open Go.AM
theorem stores_own : ownKnob Try.prog.godebug = none := by kernel_rfl
theorem stores_laid : laidOutB Try.prog = true := by kernel_rfl
theorem stores_den : ∀ xs : List D, TellArgs TT 8 Try.f3.params.toList xs → Den Try.prog 3 xs [] (.bool true) [] := by
  intro xs h
  rw [show Try.f3.params.toList = [22, 26, 3] by kernel_rfl] at h
  simp only [TellArgs] at h
  obtain ⟨x0, r0, rfl, h0, x1, r1, rfl, h1, x2, r2, rfl, h2, rfl⟩ := h
  obtain ⟨x0, rfl, t0⟩ := arg_items h0
  obtain ⟨x1, rfl, t1⟩ := arg_Item h1
  obtain ⟨x2, rfl, t2⟩ := arg_int h2
  exact law5_Stores x0 x1 x2 t0.1
set_option maxRecDepth 100000 in
theorem stores_lifted (os : Os) (started : os.Started) (H : Type) (enc : TypeId × Value → H) :
    ReturnsInHanded {} Try.checked os 3 .any (Rows.storesSpec.pre6 enc Try.prog Try.f3 Rows.storesRow.domain false) (Rows.storesSpec.post enc Try.prog Try.f3 false true false false) :=
  lift_law (C := Try.checked) tabOk 8 stores_own started (by kernel_rfl) Try.func3 stores_laid
    (ChangeSpec.witness6 (enc := enc) (C := Try.checked) false ⟨#[], #[(Value.slice none 0 0), (Value.agg #[(Value.int IntKind.i64 0), (Value.int IntKind.i64 0), (Value.int IntKind.i64 0), (Value.int IntKind.i64 0), (Value.bool false)]), (Value.int IntKind.i64 0)], []⟩ 8 (by kernel_rfl) (by kernel_rfl) (by kernel_rfl) (by kernel_rfl))
    (by kernel_rfl) (by kernel_rfl) Try.underlying4 rfl (fun ds h => by
      have h : ds.length = 3 := h
      match ds, h with
      | [d0, d1, d2], _ => rfl)
    stores_den
theorem stores_over : Rows.storesRow.holds Try.pinned (OpenSpec.ofChange Rows.storesSpec) :=
  OpenClaim.holds_of_wide 3 Try.f3 rfl rfl rfl rfl rfl rfl rfl ⟨rfl, rfl, rfl, rfl, rfl⟩ rfl rfl rfl rfl rfl (by kernel_rfl) Try.func3 (by kernel_rfl)
    (of_decide_eq_true (by kernel_rfl)) (by unfold Func.isWrapper; first | (rw [if_pos (by decide +kernel)]; kernel_rfl) | (rw [if_neg (by decide +kernel)]; exact ⟨rfl, rfl⟩))
    (fun os started H enc _ => stores_lifted os started H enc)
/-- The row. -/
theorem stores_holds : Rows.StoresSaid := stores_over
#print axioms stores_holds
end Go.Proofs.Ytgcajdfmilhclaa
