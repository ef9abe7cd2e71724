/- AskLogSaid: whatever it is handed, 'gimmallaw21.AskLog' returns true, and what it was handed reads as it did. Conditions: none. -/
import Derived.Test.YtailjedmlkdcmaaRows
import Derived.Test.YtailjedmlkdcmaaAmZ11
namespace Go.Proofs.Ytailjedmlkdcmaa
open Go.AM
theorem askLog_own : ownKnob Try.prog.godebug = none := by kernel_rfl
theorem askLog_laid : laidOutB Try.prog = true := by kernel_rfl
theorem askLog_den : ∀ xs : List D, TellArgs TT 8 Try.f6.params.toList xs → Den Try.prog 6 xs [] (.bool true) [] := by
  intro xs h
  rw [show Try.f6.params.toList = [23] by kernel_rfl] at h
  simp only [TellArgs] at h
  obtain ⟨x0, r0, rfl, h0, rfl⟩ := h
  obtain ⟨x0, rfl, t0⟩ := arg_ints h0
  exact law21_AskLog x0 (by have := t0.1; unfold cap; omega)
set_option maxRecDepth 100000 in
theorem askLog_lifted (os : Os) (started : os.Started) (H : Type) (enc : TypeId × Value → H) :
    ReturnsInHanded {} Try.checked os 6 .any (Rows.askLogSpec.pre6 enc Try.prog Try.f6 Rows.askLogRow.domain false) (Rows.askLogSpec.post enc Try.prog Try.f6 false true false false) :=
  lift_law (C := Try.checked) tabOk 8 askLog_own started (by kernel_rfl) Try.func6 askLog_laid
    (ChangeSpec.witness6 (enc := enc) (C := Try.checked) false ⟨#[], #[(Value.slice none 0 0)], []⟩ 8 (by kernel_rfl) (by kernel_rfl) (by kernel_rfl) (by kernel_rfl))
    (by kernel_rfl) (by kernel_rfl) Try.underlying4 rfl (fun ds h => by
      have h : ds.length = 1 := h
      match ds, h with
      | [d0], _ => rfl)
    askLog_den
theorem askLog_over : Rows.askLogRow.holds Try.pinned (OpenSpec.ofChange Rows.askLogSpec) :=
  OpenClaim.holds_of_wide 6 Try.f6 rfl rfl rfl rfl rfl rfl rfl ⟨rfl, rfl, rfl, rfl, rfl⟩ rfl rfl rfl rfl rfl (by kernel_rfl) Try.func6 (by kernel_rfl)
    (of_decide_eq_true (by kernel_rfl)) (by unfold Func.isWrapper; first | (rw [if_pos (by decide +kernel)]; kernel_rfl) | (rw [if_neg (by decide +kernel)]; exact ⟨rfl, rfl⟩))
    (fun os started H enc _ => askLog_lifted os started H enc)
/-- The row. -/
theorem askLog_holds : Rows.AskLogSaid := askLog_over
#print axioms askLog_holds
end Go.Proofs.Ytailjedmlkdcmaa
