/- PeersAgeSaid: whatever it is handed, 'gimmallaw7.PeersAge' returns true, and what it was handed reads as it did. Conditions: none. -/
import Derived.Test.YtacnakkdfmldnaaRows
import Derived.Test.YtacnakkdfmldnaaAmZ11
namespace Go.Proofs.Ytacnakkdfmldnaa
open Go.AM
theorem peersAge_own : ownKnob Try.prog.godebug = none := by kernel_rfl
theorem peersAge_laid : laidOutB Try.prog = true := by kernel_rfl
theorem peersAge_den : ∀ xs : List D, TellArgs TT 8 Try.f11.params.toList xs → Den Try.prog 11 xs [] (.bool true) [] := by
  intro xs h
  rw [show Try.f11.params.toList = [3, 39] by kernel_rfl] at h
  simp only [TellArgs] at h
  obtain ⟨x0, r0, rfl, h0, x1, r1, rfl, h1, rfl⟩ := h
  obtain ⟨x0, rfl, t0⟩ := arg_int h0
  obtain ⟨x1, rfl, t1⟩ := arg_peers h1
  exact law7_PeersAge x0 x1 (by have := t1.1; unfold cap16; omega)
set_option maxRecDepth 100000 in
theorem peersAge_lifted (os : Os) (started : os.Started) (H : Type) (enc : TypeId × Value → H) :
    ReturnsInHanded {} Try.checked os 11 .any (Rows.peersAgeSpec.pre6 enc Try.prog Try.f11 Rows.peersAgeRow.domain false) (Rows.peersAgeSpec.post enc Try.prog Try.f11 false true false false) :=
  lift_law (C := Try.checked) tabOk 8 peersAge_own started (by kernel_rfl) Try.func11 peersAge_laid
    (ChangeSpec.witness6 (enc := enc) (C := Try.checked) false ⟨#[], #[(Value.int IntKind.i64 0), (Value.slice none 0 0)], []⟩ 8 (by kernel_rfl) (by kernel_rfl) (by kernel_rfl) (by kernel_rfl))
    (by kernel_rfl) (by kernel_rfl) Try.underlying4 rfl (fun ds h => by
      have h : ds.length = 2 := h
      match ds, h with
      | [d0, d1], _ => rfl)
    peersAge_den
theorem peersAge_over : Rows.peersAgeRow.holds Try.pinned (OpenSpec.ofChange Rows.peersAgeSpec) :=
  OpenClaim.holds_of_wide 11 Try.f11 rfl rfl rfl rfl rfl rfl rfl ⟨rfl, rfl, rfl, rfl, rfl⟩ rfl rfl rfl rfl rfl (by kernel_rfl) Try.func11 (by kernel_rfl)
    (of_decide_eq_true (by kernel_rfl)) (by unfold Func.isWrapper; first | (rw [if_pos (by decide +kernel)]; kernel_rfl) | (rw [if_neg (by decide +kernel)]; exact ⟨rfl, rfl⟩))
    (fun os started H enc _ => peersAge_lifted os started H enc)
/-- The row. -/
theorem peersAge_holds : Rows.PeersAgeSaid := peersAge_over
#print axioms peersAge_holds
end Go.Proofs.Ytacnakkdfmldnaa
