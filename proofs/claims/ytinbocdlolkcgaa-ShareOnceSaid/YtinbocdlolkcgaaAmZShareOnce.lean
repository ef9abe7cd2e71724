/- ShareOnceSaid: whatever it is handed, 'gimmallaw18.ShareOnce' returns true, and what it was handed reads as it did. Conditions: none. -/
import Derived.Test.YtinbocdlolkcgaaRows
import Derived.Test.YtinbocdlolkcgaaAmZ10
namespace Go.Proofs.Ytinbocdlolkcgaa
open Go.AM
theorem shareOnce_own : ownKnob Try.prog.godebug = none := by kernel_rfl
theorem shareOnce_laid : laidOutB Try.prog = true := by kernel_rfl
theorem shareOnce_den : ∀ xs : List D, TellArgs TT 8 Try.f9.params.toList xs → Den Try.prog 9 xs [] (.bool true) [] := by
  intro xs h
  rw [show Try.f9.params.toList = [56] by kernel_rfl] at h
  simp only [TellArgs] at h
  obtain ⟨x0, r0, rfl, h0, rfl⟩ := h
  obtain ⟨x0, rfl, t0⟩ := arg_Node h0
  exact law18_ShareOnce x0 t0.small
set_option maxRecDepth 100000 in
theorem shareOnce_lifted (os : Os) (started : os.Started) (H : Type) (enc : TypeId × Value → H) :
    ReturnsInHanded {} Try.checked os 9 .any (Rows.shareOnceSpec.pre6 enc Try.prog Try.f9 Rows.shareOnceRow.domain false) (Rows.shareOnceSpec.post enc Try.prog Try.f9 false true false false) :=
  lift_law (C := Try.checked) tabOk 8 shareOnce_own started (by kernel_rfl) Try.func9 shareOnce_laid
    (ChangeSpec.witness6 (enc := enc) (C := Try.checked) false ⟨#[], #[(Value.agg #[(Value.bool false), (Value.int IntKind.i64 0), (Value.slice none 0 0), (Value.slice none 0 0), (Value.slice none 0 0), (Value.slice none 0 0)])], []⟩ 8 (by kernel_rfl) (by kernel_rfl) (by kernel_rfl) (by kernel_rfl))
    (by kernel_rfl) (by kernel_rfl) Try.underlying4 rfl (fun ds h => by
      have h : ds.length = 1 := h
      match ds, h with
      | [d0], _ => rfl)
    shareOnce_den
theorem shareOnce_over : Rows.shareOnceRow.holds Try.pinned (OpenSpec.ofChange Rows.shareOnceSpec) :=
  OpenClaim.holds_of_wide 9 Try.f9 rfl rfl rfl rfl rfl rfl rfl ⟨rfl, rfl, rfl, rfl, rfl⟩ rfl rfl rfl rfl rfl (by kernel_rfl) Try.func9 (by kernel_rfl)
    (of_decide_eq_true (by kernel_rfl)) (by unfold Func.isWrapper; first | (rw [if_pos (by decide +kernel)]; kernel_rfl) | (rw [if_neg (by decide +kernel)]; exact ⟨rfl, rfl⟩))
    (fun os started H enc _ => shareOnce_lifted os started H enc)
/-- The row. -/
theorem shareOnce_holds : Rows.ShareOnceSaid := shareOnce_over
#print axioms shareOnce_holds
end Go.Proofs.Ytinbocdlolkcgaa
