/- AsksSaid: whatever it is handed, 'gimmallaw21.Asks' returns true, and what it was handed reads as it did. Conditions: none. -/
import Derived.Test.YtailjedmlkdcmaaRows
import Derived.Test.YtailjedmlkdcmaaAmZ12
namespace Go.Proofs.Ytailjedmlkdcmaa
open Go.AM
theorem asks_own : ownKnob Try.prog.godebug = none := by kernel_rfl
theorem asks_laid : laidOutB Try.prog = true := by kernel_rfl
theorem asks_den : ∀ xs : List D, TellArgs TT 8 Try.f3.params.toList xs → Den Try.prog 3 xs [] (.bool true) [] := by
  intro xs h
  rw [show Try.f3.params.toList = [29, 3, 35] by kernel_rfl] at h
  simp only [TellArgs] at h
  obtain ⟨x0, r0, rfl, h0, x1, r1, rfl, h1, x2, r2, rfl, h2, rfl⟩ := h
  obtain ⟨x0, rfl, t0⟩ := arg_Node h0
  obtain ⟨x1, rfl, t1⟩ := arg_int h1
  obtain ⟨x2, rfl, t2⟩ := arg_Msg h2
  exact law21_Asks x0 x1 x2 t0.small t2.ids
set_option maxRecDepth 100000 in
theorem asks_lifted (os : Os) (started : os.Started) (H : Type) (enc : TypeId × Value → H) :
    ReturnsInHanded {} Try.checked os 3 .any (Rows.asksSpec.pre6 enc Try.prog Try.f3 Rows.asksRow.domain false) (Rows.asksSpec.post enc Try.prog Try.f3 false true false false) :=
  lift_law (C := Try.checked) tabOk 8 asks_own started (by kernel_rfl) Try.func3 asks_laid
    (ChangeSpec.witness6 (enc := enc) (C := Try.checked) false ⟨#[], #[(Value.agg #[(Value.bool false), (Value.int IntKind.i64 0), (Value.slice none 0 0), (Value.slice none 0 0), (Value.slice none 0 0), (Value.slice none 0 0)]), (Value.int IntKind.i64 0), (Value.agg #[(Value.int IntKind.i64 0), (Value.int IntKind.i64 0), (Value.int IntKind.i64 0), (Value.slice none 0 0), (Value.int IntKind.i64 0), (Value.int IntKind.i64 0), (Value.int IntKind.i64 0), (Value.int IntKind.i64 0), (Value.int IntKind.i64 0), (Value.bool false), (Value.bool false)])], []⟩ 8 (by kernel_rfl) (by kernel_rfl) (by kernel_rfl) (by kernel_rfl))
    (by kernel_rfl) (by kernel_rfl) Try.underlying4 rfl (fun ds h => by
      have h : ds.length = 3 := h
      match ds, h with
      | [d0, d1, d2], _ => rfl)
    asks_den
theorem asks_over : Rows.asksRow.holds Try.pinned (OpenSpec.ofChange Rows.asksSpec) :=
  OpenClaim.holds_of_wide 3 Try.f3 rfl rfl rfl rfl rfl rfl rfl ⟨rfl, rfl, rfl, rfl, rfl⟩ rfl rfl rfl rfl rfl (by kernel_rfl) Try.func3 (by kernel_rfl)
    (of_decide_eq_true (by kernel_rfl)) (by unfold Func.isWrapper; first | (rw [if_pos (by decide +kernel)]; kernel_rfl) | (rw [if_neg (by decide +kernel)]; exact ⟨rfl, rfl⟩))
    (fun os started H enc _ => asks_lifted os started H enc)
/-- The row. -/
theorem asks_holds : Rows.AsksSaid := asks_over
#print axioms asks_holds
end Go.Proofs.Ytailjedmlkdcmaa
