/- AskOwnSaid: whatever it is handed, 'gimmallaw21.AskOwn' returns true, and what it was handed reads as it did. Conditions: none. -/
import Derived.Test.YtailjedmlkdcmaaRows
import Derived.Test.YtailjedmlkdcmaaAmZ11
namespace Go.Proofs.Ytailjedmlkdcmaa
open Go.AM
theorem askOwn_own : ownKnob Try.prog.godebug = none := by kernel_rfl
theorem askOwn_laid : laidOutB Try.prog = true := by kernel_rfl
theorem askOwn_den : ∀ xs : List D, TellArgs TT 8 Try.f8.params.toList xs → Den Try.prog 8 xs [] (.bool true) [] := by
  intro xs h
  rw [show Try.f8.params.toList = [3, 23] by kernel_rfl] at h
  simp only [TellArgs] at h
  obtain ⟨x0, r0, rfl, h0, x1, r1, rfl, h1, rfl⟩ := h
  obtain ⟨x0, rfl, t0⟩ := arg_int h0
  obtain ⟨x1, rfl, t1⟩ := arg_ints h1
  exact law21_AskOwn x0 x1 (by have := t1.1; unfold cap; omega)
set_option maxRecDepth 100000 in
theorem askOwn_lifted (os : Os) (started : os.Started) (H : Type) (enc : TypeId × Value → H) :
    ReturnsInHanded {} Try.checked os 8 .any (Rows.askOwnSpec.pre6 enc Try.prog Try.f8 Rows.askOwnRow.domain false) (Rows.askOwnSpec.post enc Try.prog Try.f8 false true false false) :=
  lift_law (C := Try.checked) tabOk 8 askOwn_own started (by kernel_rfl) Try.func8 askOwn_laid
    (ChangeSpec.witness6 (enc := enc) (C := Try.checked) false ⟨#[], #[(Value.int IntKind.i64 0), (Value.slice none 0 0)], []⟩ 8 (by kernel_rfl) (by kernel_rfl) (by kernel_rfl) (by kernel_rfl))
    (by kernel_rfl) (by kernel_rfl) Try.underlying4 rfl (fun ds h => by
      have h : ds.length = 2 := h
      match ds, h with
      | [d0, d1], _ => rfl)
    askOwn_den
theorem askOwn_over : Rows.askOwnRow.holds Try.pinned (OpenSpec.ofChange Rows.askOwnSpec) :=
  OpenClaim.holds_of_wide 8 Try.f8 rfl rfl rfl rfl rfl rfl rfl ⟨rfl, rfl, rfl, rfl, rfl⟩ rfl rfl rfl rfl rfl (by kernel_rfl) Try.func8 (by kernel_rfl)
    (of_decide_eq_true (by kernel_rfl)) (by unfold Func.isWrapper; first | (rw [if_pos (by decide +kernel)]; kernel_rfl) | (rw [if_neg (by decide +kernel)]; exact ⟨rfl, rfl⟩))
    (fun os started H enc _ => askOwn_lifted os started H enc)
/-- The row. -/
theorem askOwn_holds : Rows.AskOwnSaid := askOwn_over
#print axioms askOwn_holds
end Go.Proofs.Ytailjedmlkdcmaa
