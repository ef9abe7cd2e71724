/- CutOtherSaid: whatever it is handed, 'gimmallaw15.CutOther' returns true, and what it was handed reads as it did. Conditions: none. -/
import Derived.Test.YtgcajdfmilhclaaRows
import Derived.Test.YtgcajdfmilhclaaAmZ12
namespace Go.Proofs.Ytgcajdfmilhclaa
open Go.AM
theorem cutOther_own : ownKnob Try.prog.godebug = none := by kernel_rfl
theorem cutOther_laid : laidOutB Try.prog = true := by kernel_rfl
theorem cutOther_den : ∀ xs : List D, TellArgs TT 8 Try.f12.params.toList xs → Den Try.prog 12 xs [] (.bool true) [] := by
  intro xs h
  rw [show Try.f12.params.toList = [48, 3, 3, 3, 3] by kernel_rfl] at h
  simp only [TellArgs] at h
  obtain ⟨x0, r0, rfl, h0, x1, r1, rfl, h1, x2, r2, rfl, h2, x3, r3, rfl, h3, x4, r4, rfl, h4, rfl⟩ := h
  obtain ⟨x0, rfl, t0⟩ := arg_cuts h0
  obtain ⟨x1, rfl, t1⟩ := arg_int h1
  obtain ⟨x2, rfl, t2⟩ := arg_int h2
  obtain ⟨x3, rfl, t3⟩ := arg_int h3
  obtain ⟨x4, rfl, t4⟩ := arg_int h4
  exact law15_CutOther x0 x1 x2 x3 x4 (by have := t0.1; unfold cap; omega)
set_option maxRecDepth 100000 in
theorem cutOther_lifted (os : Os) (started : os.Started) (H : Type) (enc : TypeId × Value → H) :
    ReturnsInHanded {} Try.checked os 12 .any (Rows.cutOtherSpec.pre6 enc Try.prog Try.f12 Rows.cutOtherRow.domain false) (Rows.cutOtherSpec.post enc Try.prog Try.f12 false true false false) :=
  lift_law (C := Try.checked) tabOk 8 cutOther_own started (by kernel_rfl) Try.func12 cutOther_laid
    (ChangeSpec.witness6 (enc := enc) (C := Try.checked) false ⟨#[], #[(Value.slice none 0 0), (Value.int IntKind.i64 0), (Value.int IntKind.i64 0), (Value.int IntKind.i64 0), (Value.int IntKind.i64 0)], []⟩ 8 (by kernel_rfl) (by kernel_rfl) (by kernel_rfl) (by kernel_rfl))
    (by kernel_rfl) (by kernel_rfl) Try.underlying4 rfl (fun ds h => by
      have h : ds.length = 5 := h
      match ds, h with
      | [d0, d1, d2, d3, d4], _ => rfl)
    cutOther_den
theorem cutOther_over : Rows.cutOtherRow.holds Try.pinned (OpenSpec.ofChange Rows.cutOtherSpec) :=
  OpenClaim.holds_of_wide 12 Try.f12 rfl rfl rfl rfl rfl rfl rfl ⟨rfl, rfl, rfl, rfl, rfl⟩ rfl rfl rfl rfl rfl (by kernel_rfl) Try.func12 (by kernel_rfl)
    (of_decide_eq_true (by kernel_rfl)) (by unfold Func.isWrapper; first | (rw [if_pos (by decide +kernel)]; kernel_rfl) | (rw [if_neg (by decide +kernel)]; exact ⟨rfl, rfl⟩))
    (fun os started H enc _ => cutOther_lifted os started H enc)
/-- The row. -/
theorem cutOther_holds : Rows.CutOtherSaid := cutOther_over
#print axioms cutOther_holds
end Go.Proofs.Ytgcajdfmilhclaa
