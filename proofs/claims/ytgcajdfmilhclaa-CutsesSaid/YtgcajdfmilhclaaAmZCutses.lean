/- CutsesSaid: whatever it is handed, 'gimmallaw15.Cutses' returns true, and what it was handed reads as it did. Conditions: none. -/
import Derived.Test.YtgcajdfmilhclaaRows
import Derived.Test.YtgcajdfmilhclaaAmZ12
namespace Go.Proofs.Ytgcajdfmilhclaa
open Go.AM
theorem cutses_own : ownKnob Try.prog.godebug = none := by kernel_rfl
theorem cutses_laid : laidOutB Try.prog = true := by kernel_rfl
theorem cutses_den : ∀ xs : List D, TellArgs TT 8 Try.f9.params.toList xs → Den Try.prog 9 xs [] (.bool true) [] := by
  intro xs h
  rw [show Try.f9.params.toList = [48, 3, 3] by kernel_rfl] at h
  simp only [TellArgs] at h
  obtain ⟨x0, r0, rfl, h0, x1, r1, rfl, h1, x2, r2, rfl, h2, rfl⟩ := h
  obtain ⟨x0, rfl, t0⟩ := arg_cuts h0
  obtain ⟨x1, rfl, t1⟩ := arg_int h1
  obtain ⟨x2, rfl, t2⟩ := arg_int h2
  exact law15_Cutses x0 x1 x2 t0.1
set_option maxRecDepth 100000 in
theorem cutses_lifted (os : Os) (started : os.Started) (H : Type) (enc : TypeId × Value → H) :
    ReturnsInHanded {} Try.checked os 9 .any (Rows.cutsesSpec.pre6 enc Try.prog Try.f9 Rows.cutsesRow.domain false) (Rows.cutsesSpec.post enc Try.prog Try.f9 false true false false) :=
  lift_law (C := Try.checked) tabOk 8 cutses_own started (by kernel_rfl) Try.func9 cutses_laid
    (ChangeSpec.witness6 (enc := enc) (C := Try.checked) false ⟨#[], #[(Value.slice none 0 0), (Value.int IntKind.i64 0), (Value.int IntKind.i64 0)], []⟩ 8 (by kernel_rfl) (by kernel_rfl) (by kernel_rfl) (by kernel_rfl))
    (by kernel_rfl) (by kernel_rfl) Try.underlying4 rfl (fun ds h => by
      have h : ds.length = 3 := h
      match ds, h with
      | [d0, d1, d2], _ => rfl)
    cutses_den
theorem cutses_over : Rows.cutsesRow.holds Try.pinned (OpenSpec.ofChange Rows.cutsesSpec) :=
  OpenClaim.holds_of_wide 9 Try.f9 rfl rfl rfl rfl rfl rfl rfl ⟨rfl, rfl, rfl, rfl, rfl⟩ rfl rfl rfl rfl rfl (by kernel_rfl) Try.func9 (by kernel_rfl)
    (of_decide_eq_true (by kernel_rfl)) (by unfold Func.isWrapper; first | (rw [if_pos (by decide +kernel)]; kernel_rfl) | (rw [if_neg (by decide +kernel)]; exact ⟨rfl, rfl⟩))
    (fun os started H enc _ => cutses_lifted os started H enc)
/-- The row. -/
theorem cutses_holds : Rows.CutsesSaid := cutses_over
#print axioms cutses_holds
end Go.Proofs.Ytgcajdfmilhclaa
