/- TopHearsSaid: whatever it is handed, 'gimmaltop.TopHears' returns true, and what it was handed reads as it did. Conditions: none. -/
import Derived.Test.YtehagcggdepajaaGreatRows
import Derived.Test.YtehagcggdepajaaGreatAmZ13
namespace Go.Proofs.YtehagcggdepajaaGreat
open Go.AM
theorem topHears_own : ownKnob Tryz.prog.godebug = none := by kernel_rfl
theorem topHears_laid : laidOutB Tryz.prog = true := by kernel_rfl
theorem topHears_den : ∀ xs : List D, TellArgs TT 8 Tryz.f9.params.toList xs → Den Tryz.prog 9 xs [] (.bool true) [] := by
  intro xs h
  rw [show Tryz.f9.params.toList = [42, 68] by kernel_rfl] at h
  simp only [TellArgs] at h
  obtain ⟨x0, r0, rfl, h0, x1, r1, rfl, h1, rfl⟩ := h
  obtain ⟨x0, rfl, t0⟩ := arg_Node h0
  obtain ⟨x1, rfl, t1⟩ := arg_Msg h1
  exact topHears x0 x1 t0.small t1.ids
set_option maxRecDepth 100000 in
theorem topHears_lifted (os : Os) (started : os.Started) (H : Type) (enc : TypeId × Value → H) :
    ReturnsInHanded {} Tryz.checked os 9 .any (Rows.topHearsSpec.pre6 enc Tryz.prog Tryz.f9 Rows.topHearsRow.domain false) (Rows.topHearsSpec.post enc Tryz.prog Tryz.f9 false true false false) :=
  lift_law (C := Tryz.checked) tabOk 8 topHears_own started (by kernel_rfl) Tryz.func9 topHears_laid
    (ChangeSpec.witness6 (enc := enc) (C := Tryz.checked) false ⟨#[], #[(Value.agg #[(Value.bool false), (Value.int IntKind.i64 0), (Value.slice none 0 0), (Value.slice none 0 0), (Value.slice none 0 0), (Value.slice none 0 0)]), (Value.agg #[(Value.int IntKind.i64 0), (Value.int IntKind.i64 0), (Value.int IntKind.i64 0), (Value.slice none 0 0), (Value.int IntKind.i64 0), (Value.int IntKind.i64 0), (Value.int IntKind.i64 0), (Value.int IntKind.i64 0), (Value.int IntKind.i64 0), (Value.bool false), (Value.bool false)])], []⟩ 8 (by kernel_rfl) (by kernel_rfl) (by kernel_rfl) (by kernel_rfl))
    (by kernel_rfl) (by kernel_rfl) Tryz.underlying4 rfl (fun ds h => by
      have h : ds.length = 2 := h
      match ds, h with
      | [d0, d1], _ => rfl)
    topHears_den
theorem topHears_over : Rows.topHearsRow.holds Tryz.pinned (OpenSpec.ofChange Rows.topHearsSpec) :=
  OpenClaim.holds_of_wide 9 Tryz.f9 rfl rfl rfl rfl rfl rfl rfl ⟨rfl, rfl, rfl, rfl, rfl⟩ rfl rfl rfl rfl rfl (by kernel_rfl) Tryz.func9 (by kernel_rfl)
    (of_decide_eq_true (by kernel_rfl)) (by unfold Func.isWrapper; first | (rw [if_pos (by decide +kernel)]; kernel_rfl) | (rw [if_neg (by decide +kernel)]; exact ⟨rfl, rfl⟩))
    (fun os started H enc _ => topHears_lifted os started H enc)
/-- The row. -/
theorem topHears_holds : Rows.TopHearsSaid := topHears_over
#print axioms topHears_holds
end Go.Proofs.YtehagcggdepajaaGreat
