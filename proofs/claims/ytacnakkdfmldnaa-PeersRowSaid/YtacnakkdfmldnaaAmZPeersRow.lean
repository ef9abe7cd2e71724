/- PeersRowSaid: whatever it is handed, 'gimmallaw7.PeersRow' returns true, and what it was handed reads as it did. Conditions: none. -/
import Derived.Test.YtacnakkdfmldnaaRows
import Derived.Test.YtacnakkdfmldnaaAmZ11
namespace Go.Proofs.Ytacnakkdfmldnaa
open Go.AM
theorem peersRow_own : ownKnob Try.prog.godebug = none := by kernel_rfl
theorem peersRow_laid : laidOutB Try.prog = true := by kernel_rfl
theorem peersRow_den : ∀ xs : List D, TellArgs TT 8 Try.f12.params.toList xs → Den Try.prog 12 xs [] (.bool true) [] := by
  intro xs h
  rw [show Try.f12.params.toList = [3, 22] by kernel_rfl] at h
  simp only [TellArgs] at h
  obtain ⟨x0, r0, rfl, h0, x1, r1, rfl, h1, rfl⟩ := h
  obtain ⟨x0, rfl, t0⟩ := arg_int h0
  obtain ⟨x1, rfl, t1⟩ := arg_ints h1
  exact law7_PeersRow x0 x1 (by have := t1.1; unfold cap; omega)
set_option maxRecDepth 100000 in
theorem peersRow_lifted (os : Os) (started : os.Started) (H : Type) (enc : TypeId × Value → H) :
    ReturnsInHanded {} Try.checked os 12 .any (Rows.peersRowSpec.pre6 enc Try.prog Try.f12 Rows.peersRowRow.domain false) (Rows.peersRowSpec.post enc Try.prog Try.f12 false true false false) :=
  lift_law (C := Try.checked) tabOk 8 peersRow_own started (by kernel_rfl) Try.func12 peersRow_laid
    (ChangeSpec.witness6 (enc := enc) (C := Try.checked) false ⟨#[], #[(Value.int IntKind.i64 0), (Value.slice none 0 0)], []⟩ 8 (by kernel_rfl) (by kernel_rfl) (by kernel_rfl) (by kernel_rfl))
    (by kernel_rfl) (by kernel_rfl) Try.underlying4 rfl (fun ds h => by
      have h : ds.length = 2 := h
      match ds, h with
      | [d0, d1], _ => rfl)
    peersRow_den
theorem peersRow_over : Rows.peersRowRow.holds Try.pinned (OpenSpec.ofChange Rows.peersRowSpec) :=
  OpenClaim.holds_of_wide 12 Try.f12 rfl rfl rfl rfl rfl rfl rfl ⟨rfl, rfl, rfl, rfl, rfl⟩ rfl rfl rfl rfl rfl (by kernel_rfl) Try.func12 (by kernel_rfl)
    (of_decide_eq_true (by kernel_rfl)) (by unfold Func.isWrapper; first | (rw [if_pos (by decide +kernel)]; kernel_rfl) | (rw [if_neg (by decide +kernel)]; exact ⟨rfl, rfl⟩))
    (fun os started H enc _ => peersRow_lifted os started H enc)
/-- The row. -/
theorem peersRow_holds : Rows.PeersRowSaid := peersRow_over
#print axioms peersRow_holds
end Go.Proofs.Ytacnakkdfmldnaa
