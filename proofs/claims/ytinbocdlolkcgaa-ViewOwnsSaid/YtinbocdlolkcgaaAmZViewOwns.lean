/- ViewOwnsSaid: whatever it is handed, 'gimmallaw9.ViewOwns' returns true, and what it was handed reads as it did. Conditions: none. -/
import Derived.Test.YtinbocdlolkcgaaRows
import Derived.Test.YtinbocdlolkcgaaAmZ9
namespace Go.Proofs.Ytinbocdlolkcgaa
open Go.AM
theorem viewOwns_own : ownKnob Try.prog.godebug = none := by kernel_rfl
theorem viewOwns_laid : laidOutB Try.prog = true := by kernel_rfl
theorem viewOwns_den : ∀ xs : List D, TellArgs TT 8 Try.f5.params.toList xs → Den Try.prog 5 xs [] (.bool true) [] := by
  intro xs h
  rw [show Try.f5.params.toList = [25, 3] by kernel_rfl] at h
  simp only [TellArgs] at h
  obtain ⟨x0, r0, rfl, h0, x1, r1, rfl, h1, rfl⟩ := h
  obtain ⟨x0, rfl, t0⟩ := arg_View h0
  obtain ⟨x1, rfl, t1⟩ := arg_int h1
  exact law9_ViewOwns x0 x1 t0.small
set_option maxRecDepth 100000 in
theorem viewOwns_lifted (os : Os) (started : os.Started) (H : Type) (enc : TypeId × Value → H) :
    ReturnsInHanded {} Try.checked os 5 .any (Rows.viewOwnsSpec.pre6 enc Try.prog Try.f5 Rows.viewOwnsRow.domain false) (Rows.viewOwnsSpec.post enc Try.prog Try.f5 false true false false) :=
  lift_law (C := Try.checked) tabOk 8 viewOwns_own started (by kernel_rfl) Try.func5 viewOwns_laid
    (ChangeSpec.witness6 (enc := enc) (C := Try.checked) false ⟨#[], #[(Value.agg #[(Value.int IntKind.i64 0), (Value.slice none 0 0), (Value.slice none 0 0)]), (Value.int IntKind.i64 0)], []⟩ 8 (by kernel_rfl) (by kernel_rfl) (by kernel_rfl) (by kernel_rfl))
    (by kernel_rfl) (by kernel_rfl) Try.underlying4 rfl (fun ds h => by
      have h : ds.length = 2 := h
      match ds, h with
      | [d0, d1], _ => rfl)
    viewOwns_den
theorem viewOwns_over : Rows.viewOwnsRow.holds Try.pinned (OpenSpec.ofChange Rows.viewOwnsSpec) :=
  OpenClaim.holds_of_wide 5 Try.f5 rfl rfl rfl rfl rfl rfl rfl ⟨rfl, rfl, rfl, rfl, rfl⟩ rfl rfl rfl rfl rfl (by kernel_rfl) Try.func5 (by kernel_rfl)
    (of_decide_eq_true (by kernel_rfl)) (by unfold Func.isWrapper; first | (rw [if_pos (by decide +kernel)]; kernel_rfl) | (rw [if_neg (by decide +kernel)]; exact ⟨rfl, rfl⟩))
    (fun os started H enc _ => viewOwns_lifted os started H enc)
/-- The row. -/
theorem viewOwns_holds : Rows.ViewOwnsSaid := viewOwns_over
#print axioms viewOwns_holds
end Go.Proofs.Ytinbocdlolkcgaa
