/- TopNewestSaid: whatever it is handed, 'gimmaltop.TopNewest' returns true, and what it was handed reads as it did. Conditions: none. -/
import Derived.Test.YtehagcggdepajaaGreatRows
import Derived.Test.YtehagcggdepajaaGreatAmZ14
namespace Go.Proofs.YtehagcggdepajaaGreat
open Go.AM
theorem topNewest_own : ownKnob Tryz.prog.godebug = none := by kernel_rfl
theorem topNewest_laid : laidOutB Tryz.prog = true := by kernel_rfl
theorem topNewest_den : ∀ xs : List D, TellArgs TT 8 Tryz.f7.params.toList xs → Den Tryz.prog 7 xs [] (.bool true) [] := by
 intro xs h
 rw [show Tryz.f7.params.toList = [26, 63] by kernel_rfl] at h
 simp only [TellArgs] at h
 obtain ⟨x0, r0, rfl, h0, x1, r1, rfl, h1, rfl⟩ := h
 obtain ⟨x0, rfl, t0⟩ := z4a h0
 obtain ⟨x1, rfl, t1⟩ := z7x h1
 exact topNewest x0 x1 t0 t1.1 t1.2
set_option maxRecDepth 100000 in
theorem topNewest_lifted (os : Os) (started : os.Started) (H : Type) (enc : TypeId × Value → H) :
 ReturnsInHanded {} Tryz.checked os 7 .any (Rows.topNewestSpec.pre6 enc Tryz.prog Tryz.f7 Rows.topNewestRow.domain false) (Rows.topNewestSpec.post enc Tryz.prog Tryz.f7 false true false false) :=
 z8d (C := Tryz.checked) tabOk 8 topNewest_own started (by kernel_rfl) Tryz.func7 topNewest_laid
  (ChangeSpec.witness6 (enc := enc) (C := Tryz.checked) false ⟨#[], #[(Value.agg #[(Value.slice none 0 0), (Value.slice none 0 0), (Value.slice none 0 0)]), (Value.slice none 0 0)], []⟩ 8 (by kernel_rfl) (by kernel_rfl) (by kernel_rfl) (by kernel_rfl))
  (by kernel_rfl) (by kernel_rfl) Tryz.underlying4 rfl (fun ds h => by
    have h : ds.length = 2 := h
    match ds, h with
    | [d0, d1], _ => rfl)
  topNewest_den
theorem topNewest_over : Rows.topNewestRow.holds Tryz.pinned (OpenSpec.ofChange Rows.topNewestSpec) :=
 OpenClaim.holds_of_wide 7 Tryz.f7 rfl rfl rfl rfl rfl rfl rfl ⟨rfl, rfl, rfl, rfl, rfl⟩ rfl rfl rfl rfl rfl (by kernel_rfl) Tryz.func7 (by kernel_rfl)
  (of_decide_eq_true (by kernel_rfl)) (by unfold Func.isWrapper; first | (rw [if_pos (by decide +kernel)]; kernel_rfl) | (rw [if_neg (by decide +kernel)]; exact ⟨rfl, rfl⟩))
  (fun os started H enc _ => topNewest_lifted os started H enc)
theorem topNewest_holds : Rows.TopNewestSaid := topNewest_over
#print axioms topNewest_holds
end Go.Proofs.YtehagcggdepajaaGreat
