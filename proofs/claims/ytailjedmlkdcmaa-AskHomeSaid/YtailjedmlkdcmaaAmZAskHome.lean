/- AskHomeSaid: whatever it is handed, 'gimmallaw21.AskHome' returns true, and what it was handed reads as it did. Conditions: none. -/
import Derived.Test.YtailjedmlkdcmaaRows
import Derived.Test.YtailjedmlkdcmaaAmZ11
namespace Go.Proofs.Ytailjedmlkdcmaa
open Go.AM
theorem askHome_own : ownKnob Try.prog.godebug = none := by kernel_rfl
theorem askHome_laid : laidOutB Try.prog = true := by kernel_rfl
theorem askHome_den : ∀ xs : List D, TellArgs TT 8 Try.f7.params.toList xs → Den Try.prog 7 xs [] (.bool true) [] := by
  intro xs h
  rw [show Try.f7.params.toList = [29, 3] by kernel_rfl] at h
  simp only [TellArgs] at h
  obtain ⟨x0, r0, rfl, h0, x1, r1, rfl, h1, rfl⟩ := h
  obtain ⟨x0, rfl, t0⟩ := arg_Node h0
  obtain ⟨x1, rfl, t1⟩ := arg_int h1
  exact law21_AskHome x0 x1 t0.small
set_option maxRecDepth 100000 in
theorem askHome_lifted (os : Os) (started : os.Started) (H : Type) (enc : TypeId × Value → H) :
    ReturnsInHanded {} Try.checked os 7 .any (Rows.askHomeSpec.pre6 enc Try.prog Try.f7 Rows.askHomeRow.domain false) (Rows.askHomeSpec.post enc Try.prog Try.f7 false true false false) :=
  lift_law (C := Try.checked) tabOk 8 askHome_own started (by kernel_rfl) Try.func7 askHome_laid
    (ChangeSpec.witness6 (enc := enc) (C := Try.checked) false ⟨#[], #[(Value.agg #[(Value.bool false), (Value.int IntKind.i64 0), (Value.slice none 0 0), (Value.slice none 0 0), (Value.slice none 0 0), (Value.slice none 0 0)]), (Value.int IntKind.i64 0)], []⟩ 8 (by kernel_rfl) (by kernel_rfl) (by kernel_rfl) (by kernel_rfl))
    (by kernel_rfl) (by kernel_rfl) Try.underlying4 rfl (fun ds h => by
      have h : ds.length = 2 := h
      match ds, h with
      | [d0, d1], _ => rfl)
    askHome_den
theorem askHome_over : Rows.askHomeRow.holds Try.pinned (OpenSpec.ofChange Rows.askHomeSpec) :=
  OpenClaim.holds_of_wide 7 Try.f7 rfl rfl rfl rfl rfl rfl rfl ⟨rfl, rfl, rfl, rfl, rfl⟩ rfl rfl rfl rfl rfl (by kernel_rfl) Try.func7 (by kernel_rfl)
    (of_decide_eq_true (by kernel_rfl)) (by unfold Func.isWrapper; first | (rw [if_pos (by decide +kernel)]; kernel_rfl) | (rw [if_neg (by decide +kernel)]; exact ⟨rfl, rfl⟩))
    (fun os started H enc _ => askHome_lifted os started H enc)
/-- The row. -/
theorem askHome_holds : Rows.AskHomeSaid := askHome_over
#print axioms askHome_holds
end Go.Proofs.Ytailjedmlkdcmaa
