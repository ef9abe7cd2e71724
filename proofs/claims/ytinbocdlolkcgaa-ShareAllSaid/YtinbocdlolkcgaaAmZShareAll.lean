/- ShareAllSaid: whatever it is handed, 'gimmallaw18.ShareAll' returns true, and what it was handed reads as it did. Conditions: none. -/
import Derived.Test.YtinbocdlolkcgaaRows
import Derived.Test.YtinbocdlolkcgaaAmZ10
namespace Go.Proofs.Ytinbocdlolkcgaa
open Go.AM
theorem shareAll_own : ownKnob Try.prog.godebug = none := by kernel_rfl
theorem shareAll_laid : laidOutB Try.prog = true := by kernel_rfl
theorem shareAll_den : ∀ xs : List D, TellArgs TT 8 Try.f12.params.toList xs → Den Try.prog 12 xs [] (.bool true) [] := by
  intro xs h
  rw [show Try.f12.params.toList = [56, 56] by kernel_rfl] at h
  simp only [TellArgs] at h
  obtain ⟨x0, r0, rfl, h0, x1, r1, rfl, h1, rfl⟩ := h
  obtain ⟨x0, rfl, t0⟩ := arg_Node h0
  obtain ⟨x1, rfl, t1⟩ := arg_Node h1
  exact law18_ShareAll x0 x1 t0.small t1.small
set_option maxRecDepth 100000 in
theorem shareAll_lifted (os : Os) (started : os.Started) (H : Type) (enc : TypeId × Value → H) :
    ReturnsInHanded {} Try.checked os 12 .any (Rows.shareAllSpec.pre6 enc Try.prog Try.f12 Rows.shareAllRow.domain false) (Rows.shareAllSpec.post enc Try.prog Try.f12 false true false false) :=
  lift_law (C := Try.checked) tabOk 8 shareAll_own started (by kernel_rfl) Try.func12 shareAll_laid
    (ChangeSpec.witness6 (enc := enc) (C := Try.checked) false ⟨#[], #[(Value.agg #[(Value.bool false), (Value.int IntKind.i64 0), (Value.slice none 0 0), (Value.slice none 0 0), (Value.slice none 0 0), (Value.slice none 0 0)]), (Value.agg #[(Value.bool false), (Value.int IntKind.i64 0), (Value.slice none 0 0), (Value.slice none 0 0), (Value.slice none 0 0), (Value.slice none 0 0)])], []⟩ 8 (by kernel_rfl) (by kernel_rfl) (by kernel_rfl) (by kernel_rfl))
    (by kernel_rfl) (by kernel_rfl) Try.underlying4 rfl (fun ds h => by
      have h : ds.length = 2 := h
      match ds, h with
      | [d0, d1], _ => rfl)
    shareAll_den
theorem shareAll_over : Rows.shareAllRow.holds Try.pinned (OpenSpec.ofChange Rows.shareAllSpec) :=
  OpenClaim.holds_of_wide 12 Try.f12 rfl rfl rfl rfl rfl rfl rfl ⟨rfl, rfl, rfl, rfl, rfl⟩ rfl rfl rfl rfl rfl (by kernel_rfl) Try.func12 (by kernel_rfl)
    (of_decide_eq_true (by kernel_rfl)) (by unfold Func.isWrapper; first | (rw [if_pos (by decide +kernel)]; kernel_rfl) | (rw [if_neg (by decide +kernel)]; exact ⟨rfl, rfl⟩))
    (fun os started H enc _ => shareAll_lifted os started H enc)
/-- The row. -/
theorem shareAll_holds : Rows.ShareAllSaid := shareAll_over
#print axioms shareAll_holds
end Go.Proofs.Ytinbocdlolkcgaa
