/- PeersFormsSaid: whatever it is handed, 'gimmallaw7.PeersForms' returns true, and what it was handed reads as it did. Conditions: none. -/
import Derived.Test.YtacnakkdfmldnaaRows
import Derived.Test.YtacnakkdfmldnaaAmZ11
namespace Go.Proofs.Ytacnakkdfmldnaa
open Go.AM
theorem peersForms_own : ownKnob Try.prog.godebug = none := by kernel_rfl
theorem peersForms_laid : laidOutB Try.prog = true := by kernel_rfl
theorem peersForms_den : ∀ xs : List D, TellArgs TT 8 Try.f8.params.toList xs → Den Try.prog 8 xs [] (.bool true) [] := by
  intro xs h
  rw [show Try.f8.params.toList = [3, 3] by kernel_rfl] at h
  simp only [TellArgs] at h
  obtain ⟨x0, r0, rfl, h0, x1, r1, rfl, h1, rfl⟩ := h
  obtain ⟨x0, rfl, t0⟩ := arg_int h0
  obtain ⟨x1, rfl, t1⟩ := arg_int h1
  exact law7_PeersForms x0 x1
set_option maxRecDepth 100000 in
theorem peersForms_lifted (os : Os) (started : os.Started) (H : Type) (enc : TypeId × Value → H) :
    ReturnsInHanded {} Try.checked os 8 .any (Rows.peersFormsSpec.pre6 enc Try.prog Try.f8 Rows.peersFormsRow.domain false) (Rows.peersFormsSpec.post enc Try.prog Try.f8 false true false false) :=
  lift_law (C := Try.checked) tabOk 8 peersForms_own started (by kernel_rfl) Try.func8 peersForms_laid
    (ChangeSpec.witness6 (enc := enc) (C := Try.checked) false ⟨#[], #[(Value.int IntKind.i64 0), (Value.int IntKind.i64 0)], []⟩ 8 (by kernel_rfl) (by kernel_rfl) (by kernel_rfl) (by kernel_rfl))
    (by kernel_rfl) (by kernel_rfl) Try.underlying4 rfl (fun ds h => by
      have h : ds.length = 2 := h
      match ds, h with
      | [d0, d1], _ => rfl)
    peersForms_den
theorem peersForms_over : Rows.peersFormsRow.holds Try.pinned (OpenSpec.ofChange Rows.peersFormsSpec) :=
  OpenClaim.holds_of_wide 8 Try.f8 rfl rfl rfl rfl rfl rfl rfl ⟨rfl, rfl, rfl, rfl, rfl⟩ rfl rfl rfl rfl rfl (by kernel_rfl) Try.func8 (by kernel_rfl)
    (of_decide_eq_true (by kernel_rfl)) (by unfold Func.isWrapper; first | (rw [if_pos (by decide +kernel)]; kernel_rfl) | (rw [if_neg (by decide +kernel)]; exact ⟨rfl, rfl⟩))
    (fun os started H enc _ => peersForms_lifted os started H enc)
/-- The row. -/
theorem peersForms_holds : Rows.PeersFormsSaid := peersForms_over
#print axioms peersForms_holds
end Go.Proofs.Ytacnakkdfmldnaa
