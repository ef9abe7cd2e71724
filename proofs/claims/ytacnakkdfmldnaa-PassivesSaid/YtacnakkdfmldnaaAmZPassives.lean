/- PassivesSaid: whatever it is handed, 'gimmallaw8.Passives' returns true, and what it was handed reads as it did. Conditions: none. -/
import Derived.Test.YtacnakkdfmldnaaRows
import Derived.Test.YtacnakkdfmldnaaAmZ11
namespace Go.Proofs.Ytacnakkdfmldnaa
open Go.AM
theorem passives_own : ownKnob Try.prog.godebug = none := by kernel_rfl
theorem passives_laid : laidOutB Try.prog = true := by kernel_rfl
theorem passives_den : ∀ xs : List D, TellArgs TT 8 Try.f3.params.toList xs → Den Try.prog 3 xs [] (.bool true) [] := by
  intro xs h
  rw [show Try.f3.params.toList = [22, 3] by kernel_rfl] at h
  simp only [TellArgs] at h
  obtain ⟨x0, r0, rfl, h0, x1, r1, rfl, h1, rfl⟩ := h
  obtain ⟨x0, rfl, t0⟩ := arg_ints h0
  obtain ⟨x1, rfl, t1⟩ := arg_int h1
  exact law8_Passives x0 x1 t0.1
set_option maxRecDepth 100000 in
theorem passives_lifted (os : Os) (started : os.Started) (H : Type) (enc : TypeId × Value → H) :
    ReturnsInHanded {} Try.checked os 3 .any (Rows.passivesSpec.pre6 enc Try.prog Try.f3 Rows.passivesRow.domain false) (Rows.passivesSpec.post enc Try.prog Try.f3 false true false false) :=
  lift_law (C := Try.checked) tabOk 8 passives_own started (by kernel_rfl) Try.func3 passives_laid
    (ChangeSpec.witness6 (enc := enc) (C := Try.checked) false ⟨#[], #[(Value.slice none 0 0), (Value.int IntKind.i64 0)], []⟩ 8 (by kernel_rfl) (by kernel_rfl) (by kernel_rfl) (by kernel_rfl))
    (by kernel_rfl) (by kernel_rfl) Try.underlying4 rfl (fun ds h => by
      have h : ds.length = 2 := h
      match ds, h with
      | [d0, d1], _ => rfl)
    passives_den
theorem passives_over : Rows.passivesRow.holds Try.pinned (OpenSpec.ofChange Rows.passivesSpec) :=
  OpenClaim.holds_of_wide 3 Try.f3 rfl rfl rfl rfl rfl rfl rfl ⟨rfl, rfl, rfl, rfl, rfl⟩ rfl rfl rfl rfl rfl (by kernel_rfl) Try.func3 (by kernel_rfl)
    (of_decide_eq_true (by kernel_rfl)) (by unfold Func.isWrapper; first | (rw [if_pos (by decide +kernel)]; kernel_rfl) | (rw [if_neg (by decide +kernel)]; exact ⟨rfl, rfl⟩))
    (fun os started H enc _ => passives_lifted os started H enc)
/-- The row. -/
theorem passives_holds : Rows.PassivesSaid := passives_over
#print axioms passives_holds
end Go.Proofs.Ytacnakkdfmldnaa
