/- TopKnownSaid: whatever it is handed, 'gimmaltop.TopKnown' returns true, and what it was handed reads as it did. Conditions: none. -/
import Derived.Test.YtehagcggdepajaaGreatRows
import Derived.Test.YtehagcggdepajaaGreatAmZ14
namespace Go.Proofs.YtehagcggdepajaaGreat
open Go.AM
theorem topKnown_own : ownKnob Tryz.prog.godebug = none := by kernel_rfl
theorem topKnown_laid : laidOutB Tryz.prog = true := by kernel_rfl
theorem topKnown_den : ∀ xs : List D, TellArgs TT 8 Tryz.f5.params.toList xs → Den Tryz.prog 5 xs [] (.bool true) [] := by
 intro xs h
 rw [show Tryz.f5.params.toList = [26, 63] by kernel_rfl] at h
 simp only [TellArgs] at h
 obtain ⟨x0, r0, rfl, h0, x1, r1, rfl, h1, rfl⟩ := h
 obtain ⟨x0, rfl, t0⟩ := z6p h0
 obtain ⟨x1, rfl, t1⟩ := z72 h1
 exact topKnown x0 x1 t0 t1.1 t1.2
set_option maxRecDepth 100000 in
theorem topKnown_lifted (os : Os) (started : os.Started) (H : Type) (enc : TypeId × Value → H) :
 ReturnsInHanded {} Tryz.checked os 5 .any (Rows.topKnownSpec.pre6 enc Tryz.prog Tryz.f5 Rows.topKnownRow.domain false) (Rows.topKnownSpec.post enc Tryz.prog Tryz.f5 false true false false) :=
 z8y (C := Tryz.checked) tabOk 8 topKnown_own started (by kernel_rfl) Tryz.func5 topKnown_laid
  (ChangeSpec.witness6 (enc := enc) (C := Tryz.checked) false ⟨#[], #[(Value.agg #[(Value.slice none 0 0), (Value.slice none 0 0), (Value.slice none 0 0)]), (Value.slice none 0 0)], []⟩ 8 (by kernel_rfl) (by kernel_rfl) (by kernel_rfl) (by kernel_rfl))
  (by kernel_rfl) (by kernel_rfl) Tryz.underlying4 rfl (fun ds h => by
    have h : ds.length = 2 := h
    match ds, h with
    | [d0, d1], _ => rfl)
  topKnown_den
theorem topKnown_over : Rows.topKnownRow.holds Tryz.pinned (OpenSpec.ofChange Rows.topKnownSpec) :=
 OpenClaim.holds_of_wide 5 Tryz.f5 rfl rfl rfl rfl rfl rfl rfl ⟨rfl, rfl, rfl, rfl, rfl⟩ rfl rfl rfl rfl rfl (by kernel_rfl) Tryz.func5 (by kernel_rfl)
  (of_decide_eq_true (by kernel_rfl)) (by unfold Func.isWrapper; first | (rw [if_pos (by decide +kernel)]; kernel_rfl) | (rw [if_neg (by decide +kernel)]; exact ⟨rfl, rfl⟩))
  (fun os started H enc _ => topKnown_lifted os started H enc)
theorem topKnown_holds : Rows.TopKnownSaid := topKnown_over
#print axioms topKnown_holds
end Go.Proofs.YtehagcggdepajaaGreat
