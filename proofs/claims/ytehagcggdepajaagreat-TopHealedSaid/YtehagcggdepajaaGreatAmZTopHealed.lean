/- TopHealedSaid: whatever it is handed, 'gimmaltop.TopHealed' returns true, and what it was handed reads as it did. Conditions: none. -/
import Derived.Test.YtehagcggdepajaaGreatRows
import Derived.Test.YtehagcggdepajaaGreatAmZ14
namespace Go.Proofs.YtehagcggdepajaaGreat
open Go.AM
theorem topHealed_own : ownKnob Tryz.prog.godebug = none := by kernel_rfl
theorem topHealed_laid : laidOutB Tryz.prog = true := by kernel_rfl
theorem topHealed_den : ∀ xs : List D, TellArgs TT 8 Tryz.f3.params.toList xs → Den Tryz.prog 3 xs [] (.bool true) [] := by
 intro xs h
 rw [show Tryz.f3.params.toList = [26] by kernel_rfl] at h
 simp only [TellArgs] at h
 obtain ⟨x0, r0, rfl, h0, rfl⟩ := h
 obtain ⟨x0, rfl, t0⟩ := z5y h0
 exact topHealed x0 t0
set_option maxRecDepth 100000 in
theorem topHealed_lifted (os : Os) (started : os.Started) (H : Type) (enc : TypeId × Value → H) :
 ReturnsInHanded {} Tryz.checked os 3 .any (Rows.topHealedSpec.pre6 enc Tryz.prog Tryz.f3 Rows.topHealedRow.domain false) (Rows.topHealedSpec.post enc Tryz.prog Tryz.f3 false true false false) :=
 z7p (C := Tryz.checked) tabOk 8 topHealed_own started (by kernel_rfl) Tryz.func3 topHealed_laid
  (ChangeSpec.witness6 (enc := enc) (C := Tryz.checked) false ⟨#[], #[(Value.agg #[(Value.slice none 0 0), (Value.slice none 0 0), (Value.slice none 0 0)])], []⟩ 8 (by kernel_rfl) (by kernel_rfl) (by kernel_rfl) (by kernel_rfl))
  (by kernel_rfl) (by kernel_rfl) Tryz.underlying4 rfl (fun ds h => by
    have h : ds.length = 1 := h
    match ds, h with
    | [d0], _ => rfl)
  topHealed_den
theorem topHealed_over : Rows.topHealedRow.holds Tryz.pinned (OpenSpec.ofChange Rows.topHealedSpec) :=
 OpenClaim.holds_of_wide 3 Tryz.f3 rfl rfl rfl rfl rfl rfl rfl ⟨rfl, rfl, rfl, rfl, rfl⟩ rfl rfl rfl rfl rfl (by kernel_rfl) Tryz.func3 (by kernel_rfl)
  (of_decide_eq_true (by kernel_rfl)) (by unfold Func.isWrapper; first | (rw [if_pos (by decide +kernel)]; kernel_rfl) | (rw [if_neg (by decide +kernel)]; exact ⟨rfl, rfl⟩))
  (fun os started H enc _ => topHealed_lifted os started H enc)
theorem topHealed_holds : Rows.TopHealedSaid := topHealed_over
#print axioms topHealed_holds
end Go.Proofs.YtehagcggdepajaaGreat
