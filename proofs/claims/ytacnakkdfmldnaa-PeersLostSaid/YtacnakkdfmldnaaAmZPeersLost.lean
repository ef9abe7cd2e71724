/- PeersLostSaid: whatever it is handed, 'gimmallaw7.PeersLost' returns true, and what it was handed reads as it did. Conditions: none. -/
import Derived.Test.YtacnakkdfmldnaaRows
import Derived.Test.YtacnakkdfmldnaaAmZ11
namespace Go.Proofs.Ytacnakkdfmldnaa
open Go.AM
theorem peersLost_own : ownKnob Try.prog.godebug = none := by kernel_rfl
theorem peersLost_laid : laidOutB Try.prog = true := by kernel_rfl
theorem peersLost_den : ∀ xs : List D, TellArgs TT 8 Try.f9.params.toList xs → Den Try.prog 9 xs [] (.bool true) [] := by
  intro xs h
  rw [show Try.f9.params.toList = [3, 3, 3] by kernel_rfl] at h
  simp only [TellArgs] at h
  obtain ⟨x0, r0, rfl, h0, x1, r1, rfl, h1, x2, r2, rfl, h2, rfl⟩ := h
  obtain ⟨x0, rfl, t0⟩ := arg_int h0
  obtain ⟨x1, rfl, t1⟩ := arg_int h1
  obtain ⟨x2, rfl, t2⟩ := arg_int h2
  exact law7_PeersLost x0 x1 x2
set_option maxRecDepth 100000 in
theorem peersLost_lifted (os : Os) (started : os.Started) (H : Type) (enc : TypeId × Value → H) :
    ReturnsInHanded {} Try.checked os 9 .any (Rows.peersLostSpec.pre6 enc Try.prog Try.f9 Rows.peersLostRow.domain false) (Rows.peersLostSpec.post enc Try.prog Try.f9 false true false false) :=
  lift_law (C := Try.checked) tabOk 8 peersLost_own started (by kernel_rfl) Try.func9 peersLost_laid
    (ChangeSpec.witness6 (enc := enc) (C := Try.checked) false ⟨#[], #[(Value.int IntKind.i64 0), (Value.int IntKind.i64 0), (Value.int IntKind.i64 0)], []⟩ 8 (by kernel_rfl) (by kernel_rfl) (by kernel_rfl) (by kernel_rfl))
    (by kernel_rfl) (by kernel_rfl) Try.underlying4 rfl (fun ds h => by
      have h : ds.length = 3 := h
      match ds, h with
      | [d0, d1, d2], _ => rfl)
    peersLost_den
theorem peersLost_over : Rows.peersLostRow.holds Try.pinned (OpenSpec.ofChange Rows.peersLostSpec) :=
  OpenClaim.holds_of_wide 9 Try.f9 rfl rfl rfl rfl rfl rfl rfl ⟨rfl, rfl, rfl, rfl, rfl⟩ rfl rfl rfl rfl rfl (by kernel_rfl) Try.func9 (by kernel_rfl)
    (of_decide_eq_true (by kernel_rfl)) (by unfold Func.isWrapper; first | (rw [if_pos (by decide +kernel)]; kernel_rfl) | (rw [if_neg (by decide +kernel)]; exact ⟨rfl, rfl⟩))
    (fun os started H enc _ => peersLost_lifted os started H enc)
/-- The row. -/
theorem peersLost_holds : Rows.PeersLostSaid := peersLost_over
#print axioms peersLost_holds
end Go.Proofs.Ytacnakkdfmldnaa
