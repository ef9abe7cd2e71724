/- TakeTwiceSaid: whatever it is handed, 'gimmallaw20.TakeTwice' returns true, and what it was handed reads as it did. Conditions: none. -/
import Derived.Test.YtailjedmlkdcmaaRows
import Derived.Test.YtailjedmlkdcmaaAmZ12
namespace Go.Proofs.Ytailjedmlkdcmaa
open Go.AM
theorem takeTwice_own : ownKnob Try.prog.godebug = none := by kernel_rfl
theorem takeTwice_laid : laidOutB Try.prog = true := by kernel_rfl
theorem takeTwice_den : ∀ xs : List D, TellArgs TT 8 Try.f12.params.toList xs → Den Try.prog 12 xs [] (.bool true) [] := by
  intro xs h
  rw [show Try.f12.params.toList = [29, 33, 33] by kernel_rfl] at h
  simp only [TellArgs] at h
  obtain ⟨x0, r0, rfl, h0, x1, r1, rfl, h1, x2, r2, rfl, h2, rfl⟩ := h
  obtain ⟨x0, rfl, t0⟩ := arg_Node h0
  obtain ⟨x1, rfl, t1⟩ := arg_Item h1
  obtain ⟨x2, rfl, t2⟩ := arg_Item h2
  exact law20_TakeTwice x0 x1 x2 t0.small
set_option maxRecDepth 100000 in
theorem takeTwice_lifted (os : Os) (started : os.Started) (H : Type) (enc : TypeId × Value → H) :
    ReturnsInHanded {} Try.checked os 12 .any (Rows.takeTwiceSpec.pre6 enc Try.prog Try.f12 Rows.takeTwiceRow.domain false) (Rows.takeTwiceSpec.post enc Try.prog Try.f12 false true false false) :=
  lift_law (C := Try.checked) tabOk 8 takeTwice_own started (by kernel_rfl) Try.func12 takeTwice_laid
    (ChangeSpec.witness6 (enc := enc) (C := Try.checked) false ⟨#[], #[(Value.agg #[(Value.bool false), (Value.int IntKind.i64 0), (Value.slice none 0 0), (Value.slice none 0 0), (Value.slice none 0 0), (Value.slice none 0 0)]), (Value.agg #[(Value.int IntKind.i64 0), (Value.int IntKind.i64 0), (Value.int IntKind.i64 0), (Value.int IntKind.i64 0), (Value.bool false)]), (Value.agg #[(Value.int IntKind.i64 0), (Value.int IntKind.i64 0), (Value.int IntKind.i64 0), (Value.int IntKind.i64 0), (Value.bool false)])], []⟩ 8 (by kernel_rfl) (by kernel_rfl) (by kernel_rfl) (by kernel_rfl))
    (by kernel_rfl) (by kernel_rfl) Try.underlying4 rfl (fun ds h => by
      have h : ds.length = 3 := h
      match ds, h with
      | [d0, d1, d2], _ => rfl)
    takeTwice_den
theorem takeTwice_over : Rows.takeTwiceRow.holds Try.pinned (OpenSpec.ofChange Rows.takeTwiceSpec) :=
  OpenClaim.holds_of_wide 12 Try.f12 rfl rfl rfl rfl rfl rfl rfl ⟨rfl, rfl, rfl, rfl, rfl⟩ rfl rfl rfl rfl rfl (by kernel_rfl) Try.func12 (by kernel_rfl)
    (of_decide_eq_true (by kernel_rfl)) (by unfold Func.isWrapper; first | (rw [if_pos (by decide +kernel)]; kernel_rfl) | (rw [if_neg (by decide +kernel)]; exact ⟨rfl, rfl⟩))
    (fun os started H enc _ => takeTwice_lifted os started H enc)
/-- The row. -/
theorem takeTwice_holds : Rows.TakeTwiceSaid := takeTwice_over
#print axioms takeTwice_holds
end Go.Proofs.Ytailjedmlkdcmaa
