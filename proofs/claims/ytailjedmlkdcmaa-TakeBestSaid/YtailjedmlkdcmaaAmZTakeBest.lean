/- TakeBestSaid: whatever it is handed, 'gimmallaw20.TakeBest' returns true, and what it was handed reads as it did. Conditions: none. -/
import Derived.Test.YtailjedmlkdcmaaRows
import Derived.Test.YtailjedmlkdcmaaAmZ12
namespace Go.Proofs.Ytailjedmlkdcmaa
open Go.AM
theorem takeBest_own : ownKnob Try.prog.godebug = none := by kernel_rfl
theorem takeBest_laid : laidOutB Try.prog = true := by kernel_rfl
theorem takeBest_den : ∀ xs : List D, TellArgs TT 8 Try.f11.params.toList xs → Den Try.prog 11 xs [] (.bool true) [] := by
  intro xs h
  rw [show Try.f11.params.toList = [29, 33] by kernel_rfl] at h
  simp only [TellArgs] at h
  obtain ⟨x0, r0, rfl, h0, x1, r1, rfl, h1, rfl⟩ := h
  obtain ⟨x0, rfl, t0⟩ := arg_Node h0
  obtain ⟨x1, rfl, t1⟩ := arg_Item h1
  exact law20_TakeBest x0 x1 t0.small
set_option maxRecDepth 100000 in
theorem takeBest_lifted (os : Os) (started : os.Started) (H : Type) (enc : TypeId × Value → H) :
    ReturnsInHanded {} Try.checked os 11 .any (Rows.takeBestSpec.pre6 enc Try.prog Try.f11 Rows.takeBestRow.domain false) (Rows.takeBestSpec.post enc Try.prog Try.f11 false true false false) :=
  lift_law (C := Try.checked) tabOk 8 takeBest_own started (by kernel_rfl) Try.func11 takeBest_laid
    (ChangeSpec.witness6 (enc := enc) (C := Try.checked) false ⟨#[], #[(Value.agg #[(Value.bool false), (Value.int IntKind.i64 0), (Value.slice none 0 0), (Value.slice none 0 0), (Value.slice none 0 0), (Value.slice none 0 0)]), (Value.agg #[(Value.int IntKind.i64 0), (Value.int IntKind.i64 0), (Value.int IntKind.i64 0), (Value.int IntKind.i64 0), (Value.bool false)])], []⟩ 8 (by kernel_rfl) (by kernel_rfl) (by kernel_rfl) (by kernel_rfl))
    (by kernel_rfl) (by kernel_rfl) Try.underlying4 rfl (fun ds h => by
      have h : ds.length = 2 := h
      match ds, h with
      | [d0, d1], _ => rfl)
    takeBest_den
theorem takeBest_over : Rows.takeBestRow.holds Try.pinned (OpenSpec.ofChange Rows.takeBestSpec) :=
  OpenClaim.holds_of_wide 11 Try.f11 rfl rfl rfl rfl rfl rfl rfl ⟨rfl, rfl, rfl, rfl, rfl⟩ rfl rfl rfl rfl rfl (by kernel_rfl) Try.func11 (by kernel_rfl)
    (of_decide_eq_true (by kernel_rfl)) (by unfold Func.isWrapper; first | (rw [if_pos (by decide +kernel)]; kernel_rfl) | (rw [if_neg (by decide +kernel)]; exact ⟨rfl, rfl⟩))
    (fun os started H enc _ => takeBest_lifted os started H enc)
/-- The row. -/
theorem takeBest_holds : Rows.TakeBestSaid := takeBest_over
#print axioms takeBest_holds
end Go.Proofs.Ytailjedmlkdcmaa
