/- TopKeptUptoSaid: whatever of bulk at most 1048576 it is handed, 'gimmaltop.TopKept' returns true, and what it was handed reads as it did. Conditions: the bulk of what is handed in is at most 1048576 (the statement's own). -/
import Derived.Test.YtehagcggdepajaaGreatRows
import Derived.Test.YtehagcggdepajaaGreatAmZ15
set_option linter.unusedVariables false
set_option linter.unusedSimpArgs false
set_option maxRecDepth 8000
set_option maxHeartbeats 0
namespace Go.Proofs.YtehagcggdepajaaGreat
open Go.AM Go.ChangeShapes
open Go.AM.szD (szL szRows)
theorem topKeptUpto_own : ownKnob Tryz.prog.godebug = none := by kernel_rfl
theorem topKeptUpto_laid : laidOutB Tryz.prog = true := by kernel_rfl
theorem topKeptUpto_den : ∀ xs : List D, zo0 TT 8 Tryz.f4.params.toList xs → szL xs ≤ 1048576 → Den Tryz.prog 4 xs [] (.bool true) [] := by
 intro xs h hz
 rw [show Tryz.f4.params.toList = [26, 3, 3] by kernel_rfl] at h
 simp only [zo0] at h
 obtain ⟨x0, r0, rfl, h0, x1, r1, rfl, h1, x2, r2, rfl, h2, rfl⟩ := h
 obtain ⟨x0, rfl, t0⟩ := qb0 h0
 obtain ⟨x1, rfl, t1⟩ := qbh h1
 obtain ⟨x2, rfl, t2⟩ := qbh h2
 obtain ⟨z1, z2, z3⟩ := qje x0
 simp only [szL] at hz
 exact topKept x0 x1 x2 t0 (by omega) (by omega) (by omega)
theorem topKeptUpto_one {H : Type} (d : DataW H) : 1 ≤ Rows.uptoBulk d := by
 cases d with
 | lit l => cases l <;> simp [Rows.uptoBulk]
 | _ => simp [Rows.uptoBulk]
set_option maxRecDepth 100000 in
theorem topKeptUpto_lifted (os : Os) (started : os.Started) (H : Type) (enc : TypeId × Value → H) (F : Stop.Interp) :
 ReturnsInHanded {} Tryz.checked os 4 .any ((Rows.OpenSpec.upto Rows.topKeptSpec).pre6 enc Tryz.prog Tryz.f4 Rows.topKeptUptoRow.domain false) (((Rows.OpenSpec.upto Rows.topKeptSpec).at F).post enc Tryz.prog Tryz.f4 false true false false) :=
 qdb (C := Tryz.checked) (s := Rows.OpenSpec.upto Rows.topKeptSpec) tabOk 8 (F := F) (B := Rows.uptoBulk) (BA := Rows.uptoBulkAll) topKeptUpto_one (by simp [Rows.uptoBulkAll]) (fun _ _ => by simp [Rows.uptoBulkAll]) (fun _ _ => by simp [Rows.uptoBulk]) (fun _ => by simp [Rows.uptoBulk])
  (k := Rows.uptoSmall) rfl (fun ds h => of_decide_eq_true h) topKeptUpto_own started (by kernel_rfl) Tryz.func4 topKeptUpto_laid
  (OpenSpec.witness (enc := enc) (C := Tryz.checked) (k := Rows.uptoSmall) rfl false ⟨#[], #[(Value.agg #[(Value.slice none 0 0), (Value.slice none 0 0), (Value.slice none 0 0)]), (Value.int IntKind.i64 0), (Value.int IntKind.i64 0)], []⟩ 8 (by kernel_rfl) (by kernel_rfl) (by kernel_rfl) (x := ((DataW.whole enc Tryz.prog (World.plainHolding Tryz.prog os ⟨#[], #[(Value.agg #[(Value.slice none 0 0), (Value.slice none 0 0), (Value.slice none 0 0)]), (Value.int IntKind.i64 0), (Value.int IntKind.i64 0)], []⟩).memory Tryz.f4.params.toList [] false [(Value.agg #[(Value.slice none 0 0), (Value.slice none 0 0), (Value.slice none 0 0)]), (Value.int IntKind.i64 0), (Value.int IntKind.i64 0)] 8).getD ([], [], []))) (hx := by kernel_rfl) (by kernel_rfl) (by kernel_rfl))
  (by kernel_rfl) (by kernel_rfl) Tryz.underlying4 rfl (fun ds h => by
    have h : ds.length = 3 := h
    match ds, h with
    | [d0, d1, d2], _ => rfl)
  topKeptUpto_den
theorem topKeptUpto_over : Rows.topKeptUptoRow.holds Tryz.pinned (Rows.OpenSpec.upto Rows.topKeptSpec) :=
 OpenClaim.holds_of_cond 4 Tryz.f4 rfl rfl rfl rfl rfl rfl rfl ⟨rfl, rfl, rfl, rfl, rfl⟩ rfl rfl rfl rfl rfl (by kernel_rfl) Tryz.func4 (by kernel_rfl)
  (of_decide_eq_true (by kernel_rfl)) (by unfold Func.isWrapper; first | (rw [if_pos (by decide +kernel)]; kernel_rfl) | (rw [if_neg (by decide +kernel)]; exact ⟨rfl, rfl⟩))
  (fun os started H enc _ F => topKeptUpto_lifted os started H enc F)
theorem topKeptUpto_holds : Rows.TopKeptUptoSaid := topKeptUpto_over
#print axioms topKeptUpto_holds
end Go.Proofs.YtehagcggdepajaaGreat
