/- TopPartsSaid: whatever it is handed, 'gimmaltop.TopParts' returns true, and what it was handed reads as it did. Conditions: none. -/
import Derived.Test.YtehagcggdepajaaGreatRows
import Derived.Test.YtehagcggdepajaaGreatAmZ14
namespace Go.Proofs.YtehagcggdepajaaGreat
open Go.AM
theorem topParts_own : ownKnob Tryz.prog.godebug = none := by kernel_rfl
theorem topParts_laid : laidOutB Tryz.prog = true := by kernel_rfl
theorem topParts_den : ∀ xs : List D, TellArgs TT 8 Tryz.f10.params.toList xs → Den Tryz.prog 10 xs [] (.bool true) [] := by
 intro xs h
 rw [show Tryz.f10.params.toList = [36, 3, 63] by kernel_rfl] at h
 simp only [TellArgs] at h
 obtain ⟨x0, r0, rfl, h0, x1, r1, rfl, h1, x2, r2, rfl, h2, rfl⟩ := h
 obtain ⟨x0, rfl, t0⟩ := z63 h0
 obtain ⟨x1, rfl, t1⟩ := z9b h1
 obtain ⟨x2, rfl, t2⟩ := z6w h2
 exact topParts x0 x1 x2 (by have := t0.1; unfold cap; omega) t2.1 t2.2
set_option maxRecDepth 100000 in
theorem topParts_lifted (os : Os) (started : os.Started) (H : Type) (enc : TypeId × Value → H) :
 ReturnsInHanded {} Tryz.checked os 10 .any (Rows.topPartsSpec.pre6 enc Tryz.prog Tryz.f10 Rows.topPartsRow.domain false) (Rows.topPartsSpec.post enc Tryz.prog Tryz.f10 false true false false) :=
 z7a (C := Tryz.checked) tabOk 8 topParts_own started (by kernel_rfl) Tryz.func10 topParts_laid
  (ChangeSpec.witness6 (enc := enc) (C := Tryz.checked) false ⟨#[], #[(Value.slice none 0 0), (Value.int IntKind.i64 0), (Value.slice none 0 0)], []⟩ 8 (by kernel_rfl) (by kernel_rfl) (by kernel_rfl) (by kernel_rfl))
  (by kernel_rfl) (by kernel_rfl) Tryz.underlying4 rfl (fun ds h => by
    have h : ds.length = 3 := h
    match ds, h with
    | [d0, d1, d2], _ => rfl)
  topParts_den
theorem topParts_over : Rows.topPartsRow.holds Tryz.pinned (OpenSpec.ofChange Rows.topPartsSpec) :=
 OpenClaim.holds_of_wide 10 Tryz.f10 rfl rfl rfl rfl rfl rfl rfl ⟨rfl, rfl, rfl, rfl, rfl⟩ rfl rfl rfl rfl rfl (by kernel_rfl) Tryz.func10 (by kernel_rfl)
  (of_decide_eq_true (by kernel_rfl)) (by unfold Func.isWrapper; first | (rw [if_pos (by decide +kernel)]; kernel_rfl) | (rw [if_neg (by decide +kernel)]; exact ⟨rfl, rfl⟩))
  (fun os started H enc _ => topParts_lifted os started H enc)
theorem topParts_holds : Rows.TopPartsSaid := topParts_over
#print axioms topParts_holds
end Go.Proofs.YtehagcggdepajaaGreat
