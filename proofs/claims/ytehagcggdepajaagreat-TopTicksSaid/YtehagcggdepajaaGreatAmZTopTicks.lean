/- TopTicksSaid: whatever it is handed, 'gimmaltop.TopTicks' returns true, and what it was handed reads as it did. Conditions: none. -/
import Derived.Test.YtehagcggdepajaaGreatRows
import Derived.Test.YtehagcggdepajaaGreatAmZ12
namespace Go.Proofs.YtehagcggdepajaaGreat
open Go.AM
theorem topTicks_own : ownKnob Tryz.prog.godebug = none := by kernel_rfl
theorem topTicks_laid : laidOutB Tryz.prog = true := by kernel_rfl
theorem topTicks_den : ∀ xs : List D, TellArgs TT 8 Tryz.f8.params.toList xs → Den Tryz.prog 8 xs [] (.bool true) [] := by
  intro xs h
  rw [show Tryz.f8.params.toList = [42] by kernel_rfl] at h
  simp only [TellArgs] at h
  obtain ⟨x0, r0, rfl, h0, rfl⟩ := h
  obtain ⟨x0, rfl, t0⟩ := arg_Node h0
  exact topTicks x0 t0.small
set_option maxRecDepth 100000 in
theorem topTicks_lifted (os : Os) (started : os.Started) (H : Type) (enc : TypeId × Value → H) :
    ReturnsInHanded {} Tryz.checked os 8 .any (Rows.topTicksSpec.pre6 enc Tryz.prog Tryz.f8 Rows.topTicksRow.domain false) (Rows.topTicksSpec.post enc Tryz.prog Tryz.f8 false true false false) :=
  lift_law (C := Tryz.checked) tabOk 8 topTicks_own started (by kernel_rfl) Tryz.func8 topTicks_laid
    (ChangeSpec.witness6 (enc := enc) (C := Tryz.checked) false ⟨#[], #[(Value.agg #[(Value.bool false), (Value.int IntKind.i64 0), (Value.slice none 0 0), (Value.slice none 0 0), (Value.slice none 0 0), (Value.slice none 0 0)])], []⟩ 8 (by kernel_rfl) (by kernel_rfl) (by kernel_rfl) (by kernel_rfl))
    (by kernel_rfl) (by kernel_rfl) Tryz.underlying4 rfl (fun ds h => by
      have h : ds.length = 1 := h
      match ds, h with
      | [d0], _ => rfl)
    topTicks_den
theorem topTicks_over : Rows.topTicksRow.holds Tryz.pinned (OpenSpec.ofChange Rows.topTicksSpec) :=
  OpenClaim.holds_of_wide 8 Tryz.f8 rfl rfl rfl rfl rfl rfl rfl ⟨rfl, rfl, rfl, rfl, rfl⟩ rfl rfl rfl rfl rfl (by kernel_rfl) Tryz.func8 (by kernel_rfl)
    (of_decide_eq_true (by kernel_rfl)) (by unfold Func.isWrapper; first | (rw [if_pos (by decide +kernel)]; kernel_rfl) | (rw [if_neg (by decide +kernel)]; exact ⟨rfl, rfl⟩))
    (fun os started H enc _ => topTicks_lifted os started H enc)
/-- The row. -/
theorem topTicks_holds : Rows.TopTicksSaid := topTicks_over
#print axioms topTicks_holds
end Go.Proofs.YtehagcggdepajaaGreat
