/- TakeRowSaid: whatever it is handed, 'gimmallaw20.TakeRow' returns true, and what it was handed reads as it did. Conditions: none. -/
import Derived.Test.YtailjedmlkdcmaaRows
import Derived.Test.YtailjedmlkdcmaaAmZ11
namespace Go.Proofs.Ytailjedmlkdcmaa
open Go.AM
theorem takeRow_own : ownKnob Try.prog.godebug = none := by kernel_rfl
theorem takeRow_laid : laidOutB Try.prog = true := by kernel_rfl
theorem takeRow_den : ∀ xs : List D, TellArgs TT 8 Try.f13.params.toList xs → Den Try.prog 13 xs [] (.bool true) [] := by
  intro xs h
  rw [show Try.f13.params.toList = [29, 26, 3] by kernel_rfl] at h
  simp only [TellArgs] at h
  obtain ⟨x0, r0, rfl, h0, x1, r1, rfl, h1, x2, r2, rfl, h2, rfl⟩ := h
  obtain ⟨x0, rfl, t0⟩ := arg_Node h0
  obtain ⟨x1, rfl, t1⟩ := arg_items h1
  obtain ⟨x2, rfl, t2⟩ := arg_int h2
  exact law20_TakeRow x0 x1 x2 t0.small (by have := t1.1; unfold cap16; omega) t2
set_option maxRecDepth 100000 in
theorem takeRow_lifted (os : Os) (started : os.Started) (H : Type) (enc : TypeId × Value → H) :
    ReturnsInHanded {} Try.checked os 13 .any (Rows.takeRowSpec.pre6 enc Try.prog Try.f13 Rows.takeRowRow.domain false) (Rows.takeRowSpec.post enc Try.prog Try.f13 false true false false) :=
  lift_law (C := Try.checked) tabOk 8 takeRow_own started (by kernel_rfl) Try.func13 takeRow_laid
    (ChangeSpec.witness6 (enc := enc) (C := Try.checked) false ⟨#[], #[(Value.agg #[(Value.bool false), (Value.int IntKind.i64 0), (Value.slice none 0 0), (Value.slice none 0 0), (Value.slice none 0 0), (Value.slice none 0 0)]), (Value.slice none 0 0), (Value.int IntKind.i64 0)], []⟩ 8 (by kernel_rfl) (by kernel_rfl) (by kernel_rfl) (by kernel_rfl))
    (by kernel_rfl) (by kernel_rfl) Try.underlying4 rfl (fun ds h => by
      have h : ds.length = 3 := h
      match ds, h with
      | [d0, d1, d2], _ => rfl)
    takeRow_den
theorem takeRow_over : Rows.takeRowRow.holds Try.pinned (OpenSpec.ofChange Rows.takeRowSpec) :=
  OpenClaim.holds_of_wide 13 Try.f13 rfl rfl rfl rfl rfl rfl rfl ⟨rfl, rfl, rfl, rfl, rfl⟩ rfl rfl rfl rfl rfl (by kernel_rfl) Try.func13 (by kernel_rfl)
    (of_decide_eq_true (by kernel_rfl)) (by unfold Func.isWrapper; first | (rw [if_pos (by decide +kernel)]; kernel_rfl) | (rw [if_neg (by decide +kernel)]; exact ⟨rfl, rfl⟩))
    (fun os started H enc _ => takeRow_lifted os started H enc)
/-- The row. -/
theorem takeRow_holds : Rows.TakeRowSaid := takeRow_over
#print axioms takeRow_holds
end Go.Proofs.Ytailjedmlkdcmaa
