/- ShareNoneSaid: whatever it is handed, 'gimmallaw18.ShareNone' returns true, and what it was handed reads as it did. Conditions: none. -/
import Derived.Test.YtinbocdlolkcgaaRows
import Derived.Test.YtinbocdlolkcgaaAmZ10
namespace Go.Proofs.Ytinbocdlolkcgaa
open Go.AM
theorem shareNone_own : ownKnob Try.prog.godebug = none := by kernel_rfl
theorem shareNone_laid : laidOutB Try.prog = true := by kernel_rfl
theorem shareNone_den : ∀ xs : List D, TellArgs TT 8 Try.f13.params.toList xs → Den Try.prog 13 xs [] (.bool true) [] := by
  intro xs h
  rw [show Try.f13.params.toList = [3, 3] by kernel_rfl] at h
  simp only [TellArgs] at h
  obtain ⟨x0, r0, rfl, h0, x1, r1, rfl, h1, rfl⟩ := h
  obtain ⟨x0, rfl, t0⟩ := arg_int h0
  obtain ⟨x1, rfl, t1⟩ := arg_int h1
  exact law18_ShareNone x0 x1
set_option maxRecDepth 100000 in
theorem shareNone_lifted (os : Os) (started : os.Started) (H : Type) (enc : TypeId × Value → H) :
    ReturnsInHanded {} Try.checked os 13 .any (Rows.shareNoneSpec.pre6 enc Try.prog Try.f13 Rows.shareNoneRow.domain false) (Rows.shareNoneSpec.post enc Try.prog Try.f13 false true false false) :=
  lift_law (C := Try.checked) tabOk 8 shareNone_own started (by kernel_rfl) Try.func13 shareNone_laid
    (ChangeSpec.witness6 (enc := enc) (C := Try.checked) false ⟨#[], #[(Value.int IntKind.i64 0), (Value.int IntKind.i64 0)], []⟩ 8 (by kernel_rfl) (by kernel_rfl) (by kernel_rfl) (by kernel_rfl))
    (by kernel_rfl) (by kernel_rfl) Try.underlying4 rfl (fun ds h => by
      have h : ds.length = 2 := h
      match ds, h with
      | [d0, d1], _ => rfl)
    shareNone_den
theorem shareNone_over : Rows.shareNoneRow.holds Try.pinned (OpenSpec.ofChange Rows.shareNoneSpec) :=
  OpenClaim.holds_of_wide 13 Try.f13 rfl rfl rfl rfl rfl rfl rfl ⟨rfl, rfl, rfl, rfl, rfl⟩ rfl rfl rfl rfl rfl (by kernel_rfl) Try.func13 (by kernel_rfl)
    (of_decide_eq_true (by kernel_rfl)) (by unfold Func.isWrapper; first | (rw [if_pos (by decide +kernel)]; kernel_rfl) | (rw [if_neg (by decide +kernel)]; exact ⟨rfl, rfl⟩))
    (fun os started H enc _ => shareNone_lifted os started H enc)
/-- The row. -/
theorem shareNone_holds : Rows.ShareNoneSaid := shareNone_over
#print axioms shareNone_holds
end Go.Proofs.Ytinbocdlolkcgaa
