/- SharesSaid: whatever it is handed, 'gimmallaw18.Shares' returns true, and what it was handed reads as it did. Conditions: none. -/
import Derived.Test.YtinbocdlolkcgaaRows
import Derived.Test.YtinbocdlolkcgaaAmZ9
namespace Go.Proofs.Ytinbocdlolkcgaa
open Go.AM
theorem shares_own : ownKnob Try.prog.godebug = none := by kernel_rfl
theorem shares_laid : laidOutB Try.prog = true := by kernel_rfl
theorem shares_den : ∀ xs : List D, TellArgs TT 8 Try.f8.params.toList xs → Den Try.prog 8 xs [] (.bool true) [] := by
  intro xs h
  rw [show Try.f8.params.toList = [56] by kernel_rfl] at h
  simp only [TellArgs] at h
  obtain ⟨x0, r0, rfl, h0, rfl⟩ := h
  obtain ⟨x0, rfl, t0⟩ := arg_Node h0
  exact law18_Shares x0 t0.small
set_option maxRecDepth 100000 in
theorem shares_lifted (os : Os) (started : os.Started) (H : Type) (enc : TypeId × Value → H) :
    ReturnsInHanded {} Try.checked os 8 .any (Rows.sharesSpec.pre6 enc Try.prog Try.f8 Rows.sharesRow.domain false) (Rows.sharesSpec.post enc Try.prog Try.f8 false true false false) :=
  lift_law (C := Try.checked) tabOk 8 shares_own started (by kernel_rfl) Try.func8 shares_laid
    (ChangeSpec.witness6 (enc := enc) (C := Try.checked) false ⟨#[], #[(Value.agg #[(Value.bool false), (Value.int IntKind.i64 0), (Value.slice none 0 0), (Value.slice none 0 0), (Value.slice none 0 0), (Value.slice none 0 0)])], []⟩ 8 (by kernel_rfl) (by kernel_rfl) (by kernel_rfl) (by kernel_rfl))
    (by kernel_rfl) (by kernel_rfl) Try.underlying4 rfl (fun ds h => by
      have h : ds.length = 1 := h
      match ds, h with
      | [d0], _ => rfl)
    shares_den
theorem shares_over : Rows.sharesRow.holds Try.pinned (OpenSpec.ofChange Rows.sharesSpec) :=
  OpenClaim.holds_of_wide 8 Try.f8 rfl rfl rfl rfl rfl rfl rfl ⟨rfl, rfl, rfl, rfl, rfl⟩ rfl rfl rfl rfl rfl (by kernel_rfl) Try.func8 (by kernel_rfl)
    (of_decide_eq_true (by kernel_rfl)) (by unfold Func.isWrapper; first | (rw [if_pos (by decide +kernel)]; kernel_rfl) | (rw [if_neg (by decide +kernel)]; exact ⟨rfl, rfl⟩))
    (fun os started H enc _ => shares_lifted os started H enc)
/-- The row. -/
theorem shares_holds : Rows.SharesSaid := shares_over
#print axioms shares_holds
end Go.Proofs.Ytinbocdlolkcgaa
