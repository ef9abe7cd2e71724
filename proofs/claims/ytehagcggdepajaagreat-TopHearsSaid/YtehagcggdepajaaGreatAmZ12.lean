/- What the proof of this claim stands on, part 12. -/
import Derived.KernelRfl
import Derived.Test.YtehagcggdepajaaGreatAmZ11
/- AM: contracts: the library's functions over slices. -/
namespace Go.AM
set_option linter.unusedSimpArgs false
set_option linter.unusedVariables false
set_option maxRecDepth 8000
set_option maxHeartbeats 0
theorem clone_int (rows : List (List D)) (hf : Fits 1 rows) (hl : rows.length * 8 ≤ 140737488355328) : Den PP 184 [.sl rows rows.length] [] (.ref 0 0 rows.length) [⟨rows, 1, .mut⟩] := by
  cases hr : rows with
  | nil =>
    refine den_zs (pre := []) (post := []) ?_ ?_
    · refine den_of [] [] is_slices_Clone_int_int ?_
      simp -implicitDefEqProofs [c_slices_Clone_int_int]
    · refine den_of [] [] is_slices_Clone_int_int ?_
      simp -implicitDefEqProofs [c_slices_Clone_int_int, Fits]
  | cons r rs =>
    rw [hr] at hf hl
    have h63 : (r :: rs).length ≤ 9223372036854775807 := by omega
    have hlen : 0 < (r :: rs).length := by simp
    generalize hn : (r :: rs).length = n at *
    generalize r :: rs = rows at *
    refine den_of [] [] is_slices_Clone_int_int ?_
    simp -implicitDefEqProofs [c_slices_Clone_int_int, hlen, List.take_of_length_le (Nat.le_of_eq hn), hf, hn, hl, h63]
theorem clone_Peer (rows : List (List D)) (hf : Fits 2 rows) (hl : rows.length * 16 ≤ 140737488355328) : Den PP 183 [.sl rows rows.length] [] (.ref 0 0 rows.length) [⟨rows, 2, .mut⟩] := by
  cases hr : rows with
  | nil =>
    refine den_zs (pre := []) (post := []) ?_ ?_
    · refine den_of [] [] is_slices_Clone_api_Peer_api_Peer ?_
      simp -implicitDefEqProofs [c_slices_Clone_api_Peer_api_Peer]
    · refine den_of [] [] is_slices_Clone_api_Peer_api_Peer ?_
      simp -implicitDefEqProofs [c_slices_Clone_api_Peer_api_Peer, Fits]
  | cons r rs =>
    rw [hr] at hf hl
    have h63 : (r :: rs).length ≤ 9223372036854775807 := by omega
    have hlen : 0 < (r :: rs).length := by simp
    generalize hn : (r :: rs).length = n at *
    generalize r :: rs = rows at *
    refine den_of [] [] is_slices_Clone_api_Peer_api_Peer ?_
    simp -implicitDefEqProofs [c_slices_Clone_api_Peer_api_Peer, hlen, List.take_of_length_le (Nat.le_of_eq hn), hf, hn, hl, h63]
theorem insert_Peer (rows : List (List D)) (v : List D) (at_ : Nat) (hf : Fits 2 rows) (hst : StillR rows) (hv : Fits 2 [v]) (hvs : ∀ d ∈ v, d.still = true) (hat : at_ ≤ rows.length) (hl : rows.length ≤ 1000000) :
    GivesC (DenF PP [0]) 226 rows 2 [.int .i64 at_, .sl [v] 1] (insL rows at_ v) := by
  refine gives_of (fun r hr => (hf r hr).1) hst fun fl hfl hrow hfs htake hget => ?_
  have hv1 : v.length = 2 := (hv v (by simp)).1
  obtain ⟨c0, cs0, hvv⟩ : ∃ c0 cs0, v = c0 :: cs0 := by
    cases v with
    | nil => simp at hv1
    | cons a b => exact ⟨a, b, rfl⟩
  have hvS : StillR [v] := by intro r hr; rw [List.mem_singleton.1 hr]; exact hvs
  generalize hn : rows.length = n at *
  have w1 : IntKind.wrap .i64 ((n : Int) + 1) = n + 1 := wrap_in (by omega) (by omega)
  have w2 : IntKind.wrap .i64 ((at_ : Int) + 1) = at_ + 1 := wrap_in (by omega) (by omega)
  have w3 : IntKind.wrap .i64 ((n : Int) + 1 - at_) = ((n + 1 - at_ : Nat) : Int) := by rw [wrap_in (by omega) (by omega)]; omega
  by_cases h1 : at_ = n
  · subst h1
    by_cases h2 : at_ + 1 ≤ fl.length
    · refine ⟨.ref 0 0 (at_ + 1), [⟨ovr fl at_ [v], 2, .mut⟩], ?_, ?_⟩
      · refine denF_of [] [66] [] [241] (by simp) ovls241 is_slices_Insert_api_Peer_api_Peer ?_
        simp -implicitDefEqProofs [-leave, c_slices_Insert_api_Peer_api_Peer]
        refine outK_slice (at_) (at_) (by simp; rfl) rfl (by first | rfl | omega | (simp [boundD]; done) | (simp [boundD]; omega) | (simp; done) | (simp; omega) | (simp [*]; done) | (simp [*]; omega)) (by first | rfl | omega | (simp [boundD]; done) | (simp [boundD]; omega) | (simp; done) | (simp; omega) | (simp [*]; done) | (simp [*]; omega)) (by omega) (by first | rfl | omega | (simp [boundD]; done) | (simp [boundD]; omega) | (simp; done) | (simp; omega) | (simp [*]; done) | (simp [*]; omega)) rfl (by first | rfl | omega | (simp [boundD]; done) | (simp [boundD]; omega) | (simp; done) | (simp; omega) | (simp [*]; done) | (simp [*]; omega)) ?_
        simp -implicitDefEqProofs [-leave, hv]
        repeat' (first | (refine appK2_if (by omega) ?_) | (refine appK2_else (by omega) ?_))
        simp -implicitDefEqProofs [-leave, hv, h2]
        rw [leave_lent (by omega) (by simpa using ((hfs.take _).append hvS).append (hfs.drop _))]
        simp [ovr]
      · exact outRows_of rfl rfl rfl (by rw [ovr_length (by simpa using h2)]; omega) (ins_rows1 hn h2 htake) (.inl rfl)
    · have h3 : fl.length = at_ := by omega
      refine ⟨.ref 1 0 (at_ + 1), [⟨fl, 2, .mut⟩, ⟨fl.take at_ ++ [v], 2, .mut⟩], ?_, ?_⟩
      · refine denF_of [] [66] [] [241] (by simp) ovls241 is_slices_Insert_api_Peer_api_Peer ?_
        simp -implicitDefEqProofs [-leave, c_slices_Insert_api_Peer_api_Peer]
        by_cases h0 : at_ = 0
        · refine outK_slice (at_) (at_) (by simp; rfl) rfl (by first | rfl | omega | (simp [boundD]; done) | (simp [boundD]; omega) | (simp; done) | (simp; omega) | (simp [*]; done) | (simp [*]; omega)) (by first | rfl | omega | (simp [boundD]; done) | (simp [boundD]; omega) | (simp; done) | (simp; omega) | (simp [*]; done) | (simp [*]; omega)) (by omega) (by first | rfl | omega | (simp [boundD]; done) | (simp [boundD]; omega) | (simp; done) | (simp; omega) | (simp [*]; done) | (simp [*]; omega)) rfl (by first | rfl | omega | (simp [boundD]; done) | (simp [boundD]; omega) | (simp; done) | (simp; omega) | (simp [*]; done) | (simp [*]; omega)) ?_
          simp -implicitDefEqProofs [-leave, hv, h3]
          repeat' (first | (refine appK2_if (by omega) ?_) | (refine appK2_else (by omega) ?_))
          simp -implicitDefEqProofs [-leave, hv, h3]
          rw [leave_new (by omega) rfl rfl (by simpa using hfs)]
          rfl
        · refine outK_sliceE (at_) (by simp; rfl) rfl (by first | rfl | omega | (simp [boundD]; done) | (simp [boundD]; omega) | (simp; done) | (simp; omega) | (simp [*]; done) | (simp [*]; omega)) (by first | rfl | omega | (simp [boundD]; done) | (simp [boundD]; omega) | (simp; done) | (simp; omega) | (simp [*]; done) | (simp [*]; omega)) (by first | rfl | omega | (simp [boundD]; done) | (simp [boundD]; omega) | (simp; done) | (simp; omega) | (simp [*]; done) | (simp [*]; omega)) rfl (by omega) ?_
          simp -implicitDefEqProofs [-leave, hv, h3]
          repeat' (first | (refine appK2_if (by omega) ?_) | (refine appK2_else (by omega) ?_))
          simp -implicitDefEqProofs [-leave, hv, h3]
          rw [leave_new (by omega) rfl rfl (by simpa using hfs)]
          rfl
      · exact outRows_of rfl rfl rfl (by simp; omega) (ins_rows2 hn htake) (.inr (by omega))
  · have hlt : at_ < n := by omega
    have hT1 : ∀ X : List (List D), List.take (n - at_) (List.take (n + 1 - at_) X) = List.take (n - at_) X := by
      intro X
      rw [List.take_take]
      congr 1
      omega
    have hfit : Fits 2 (List.take (n - at_) (List.drop at_ fl)) := by
      intro r hr
      rw [← List.drop_take, htake] at hr
      exact hf r (List.mem_of_mem_drop hr)
    have hrr : ∀ m, ∀ r ∈ List.take m (List.drop at_ fl), r.length = 2 := fun m r hr => hrow r (List.mem_of_mem_drop (List.mem_of_mem_take hr))
    have hT3 : ∀ X : List (List D), List.take (n - at_) (List.take (n - at_) X) = List.take (n - at_) X := by intro X; rw [List.take_take]; congr 1; omega
    have hT2 : List.take (n + 1 - at_) [v] = [v] := List.take_of_length_le (by simp; omega)
    have hap : ∀ (fl' : List (List D)) (bs : List Blk) (o l : Nat), apartD (⟨fl', 2, .mut⟩ :: bs) [.sl [v] 1, .ref 0 o l] = true := by
      intro _ _ _ _
      rw [hvv]
      rfl
    have hyl : (List.take (n - at_) (List.drop at_ fl)).length = n - at_ := by simp; omega
    have hne : ¬ (at_ : Int) = n := by omega
    by_cases h2 : n + 1 ≤ fl.length
    · have h2' : ¬ ((fl.length : Int) < (n : Int) + 1) := by omega
      refine ⟨.ref 0 0 (n + 1), [⟨ovr (ovr fl (at_ + 1) ((fl.drop at_).take (n - at_))) at_ [v], 2, .mut⟩], ?_, ?_⟩
      · refine denF_of [] [66] [] [241] (by simp) ovls241 is_slices_Insert_api_Peer_api_Peer ?_
        simp -implicitDefEqProofs [-leave, c_slices_Insert_api_Peer_api_Peer]
        refine outK_slice (at_) (n) (by simp; rfl) rfl (by first | rfl | omega | (simp [boundD]; done) | (simp [boundD]; omega) | (simp; done) | (simp; omega) | (simp [*]; done) | (simp [*]; omega)) (by first | rfl | omega | (simp [boundD]; done) | (simp [boundD]; omega) | (simp; done) | (simp; omega) | (simp [*]; done) | (simp [*]; omega)) (by omega) (by first | rfl | omega | (simp [boundD]; done) | (simp [boundD]; omega) | (simp; done) | (simp; omega) | (simp [*]; done) | (simp [*]; omega)) rfl (by first | rfl | omega | (simp [boundD]; done) | (simp [boundD]; omega) | (simp; done) | (simp; omega) | (simp [*]; done) | (simp [*]; omega)) ?_
        simp -implicitDefEqProofs [-leave, hv, h1, hne, w1, w2, h2']
        refine outK_slice (0) (n + 1) (by simp; rfl) rfl (by first | rfl | omega | (simp [boundD]; done) | (simp [boundD]; omega) | (simp; done) | (simp; omega) | (simp [*]; done) | (simp [*]; omega)) (by first | rfl | omega | (simp [boundD]; done) | (simp [boundD]; omega) | (simp; done) | (simp; omega) | (simp [*]; done) | (simp [*]; omega)) (by omega) (by first | rfl | omega | (simp [boundD]; done) | (simp [boundD]; omega) | (simp; done) | (simp; omega) | (simp [*]; done) | (simp [*]; omega)) rfl (by first | rfl | omega | (simp [boundD]; done) | (simp [boundD]; omega) | (simp; done) | (simp; omega) | (simp [*]; done) | (simp [*]; omega)) ?_
        simp -implicitDefEqProofs [-leave, hv, h1, hne, w1, w2, h2']
        refine outK_slice (at_ + 1) (n + 1) (by simp; rfl) rfl (by first | rfl | omega | (simp [boundD]; done) | (simp [boundD]; omega) | (simp; done) | (simp; omega) | (simp [*]; done) | (simp [*]; omega)) (by first | rfl | omega | (simp [boundD]; done) | (simp [boundD]; omega) | (simp; done) | (simp; omega) | (simp [*]; done) | (simp [*]; omega)) (by omega) (by first | rfl | omega | (simp [boundD]; done) | (simp [boundD]; omega) | (simp; done) | (simp; omega) | (simp [*]; done) | (simp [*]; omega)) rfl (by first | rfl | omega | (simp [boundD]; done) | (simp [boundD]; omega) | (simp; done) | (simp; omega) | (simp [*]; done) | (simp [*]; omega)) ?_
        simp -implicitDefEqProofs [-leave, hv, h1, hne, w1, w2, h2', hap]
        refine outK_slice (at_ + 1) (n + 1) (by simp; rfl) rfl (by first | rfl | omega | (simp [boundD]; done) | (simp [boundD]; omega) | (simp; done) | (simp; omega) | (simp [*]; done) | (simp [*]; omega)) (by first | rfl | omega | (simp [boundD]; done) | (simp [boundD]; omega) | (simp; done) | (simp; omega) | (simp [*]; done) | (simp [*]; omega)) (by omega) (by first | rfl | omega | (simp [boundD]; done) | (simp [boundD]; omega) | (simp; done) | (simp; omega) | (simp [*]; done) | (simp [*]; omega)) rfl (by first | rfl | omega | (simp [boundD]; done) | (simp [boundD]; omega) | (simp; done) | (simp; omega) | (simp [*]; done) | (simp [*]; omega)) ?_
        simp -implicitDefEqProofs [-leave, hv, h1, hne, w1, w2, h2']
        refine outK_slice (at_) (n + 1) (by simp; rfl) rfl (by first | rfl | omega | (simp [boundD]; done) | (simp [boundD]; omega) | (simp; done) | (simp; omega) | (simp [*]; done) | (simp [*]; omega)) (by first | rfl | omega | (simp [boundD]; done) | (simp [boundD]; omega) | (simp; done) | (simp; omega) | (simp [*]; done) | (simp [*]; omega)) (by omega) (by first | rfl | omega | (simp [boundD]; done) | (simp [boundD]; omega) | (simp; done) | (simp; omega) | (simp [*]; done) | (simp [*]; omega)) rfl (by first | rfl | omega | (simp [boundD]; done) | (simp [boundD]; omega) | (simp; done) | (simp; omega) | (simp [*]; done) | (simp [*]; omega)) ?_
        simp -implicitDefEqProofs [-leave, hv, h1, hne, w1, w2, h2', hT1, hfit]
        refine ⟨hrr _, ?_⟩
        try refine overK_if (by first | omega | (simp; done) | (simp; omega)) ?_
        have hB1 := ovr_length (rows := fl) (p := at_ + 1) (ys := List.take (n - at_) (List.drop at_ fl)) (by omega)
        have hBS := hfs.ovr ((hfs.drop at_).take (n - at_)) (at_ + 1)
        generalize hB : ovr fl (at_ + 1) (List.take (n - at_) (List.drop at_ fl)) = B at *
        simp -implicitDefEqProofs [-leave, hv, h1, hne, w1, w2, h2']
        refine outK_slice (at_) (n + 1) (by simp; rfl) rfl (by first | rfl | omega | (simp [boundD]; done) | (simp [boundD]; omega) | (simp; done) | (simp; omega) | (simp [*]; done) | (simp [*]; omega)) (by first | rfl | omega | (simp [boundD]; done) | (simp [boundD]; omega) | (simp; done) | (simp; omega) | (simp [*]; done) | (simp [*]; omega)) (by omega) (by first | rfl | omega | (simp [boundD]; done) | (simp [boundD]; omega) | (simp; done) | (simp; omega) | (simp [*]; done) | (simp [*]; omega)) rfl (by first | rfl | omega | (simp [boundD]; done) | (simp [boundD]; omega) | (simp; done) | (simp; omega) | (simp [*]; done) | (simp [*]; omega)) ?_
        simp -implicitDefEqProofs [-leave, hv, h1, hne, w1, w2, h2', hv1, hT2]
        try refine overK_if (by first | omega | (simp; done) | (simp; omega)) ?_
        simp -implicitDefEqProofs [-leave, hv, h1, hne, w1, w2, h2']
        rw [leave_lent (by omega) (by simpa using hBS.ovr hvS at_)]
        rfl
      · exact outRows_of rfl rfl rfl (by show 0 + (n + 1) ≤ (ovr (ovr fl (at_ + 1) _) at_ [v]).length; rw [ovr_length (by rw [ovr_length (by omega)]; simp; omega), ovr_length (by omega)]; omega) (ins_rowsC hn hlt h2 htake) (.inl rfl)
    · have h3 : fl.length = n := by omega
      have h3' : (n : Int) < (n : Int) + 1 := by omega
      refine ⟨.ref 1 0 (n + 1), [⟨fl, 2, .mut⟩, ⟨ovr (ovr (fl.take at_ ++ List.replicate (n + 1 - at_) (TT 204).zero) at_ [v]) (at_ + 1) ((fl.drop at_).take (n - at_)), 2, .mut⟩], ?_, ?_⟩
      · refine denF_of [] [66] [] [241] (by simp) ovls241 is_slices_Insert_api_Peer_api_Peer ?_
        simp -implicitDefEqProofs [-leave, c_slices_Insert_api_Peer_api_Peer]
        refine outK_slice (at_) (n) (by simp; rfl) rfl (by first | rfl | omega | (simp [boundD]; done) | (simp [boundD]; omega) | (simp; done) | (simp; omega) | (simp [*]; done) | (simp [*]; omega)) (by first | rfl | omega | (simp [boundD]; done) | (simp [boundD]; omega) | (simp; done) | (simp; omega) | (simp [*]; done) | (simp [*]; omega)) (by omega) (by first | rfl | omega | (simp [boundD]; done) | (simp [boundD]; omega) | (simp; done) | (simp; omega) | (simp [*]; done) | (simp [*]; omega)) rfl (by first | rfl | omega | (simp [boundD]; done) | (simp [boundD]; omega) | (simp; done) | (simp; omega) | (simp [*]; done) | (simp [*]; omega)) ?_
        simp -implicitDefEqProofs [-leave, hv, h1, hne, w1, w2, h3, h3']
        refine outK_slice (0) (at_) (by simp; rfl) rfl (by first | rfl | omega | (simp [boundD]; done) | (simp [boundD]; omega) | (simp; done) | (simp; omega) | (simp [*]; done) | (simp [*]; omega)) (by first | rfl | omega | (simp [boundD]; done) | (simp [boundD]; omega) | (simp; done) | (simp; omega) | (simp [*]; done) | (simp [*]; omega)) (by omega) (by first | rfl | omega | (simp [boundD]; done) | (simp [boundD]; omega) | (simp; done) | (simp; omega) | (simp [*]; done) | (simp [*]; omega)) rfl (by first | rfl | omega | (simp [boundD]; done) | (simp [boundD]; omega) | (simp; done) | (simp; omega) | (simp [*]; done) | (simp [*]; omega)) ?_
        simp -implicitDefEqProofs [-leave, hv, h1, hne, w1, w2, w3, h3, h3']
        refine appK_if (by omega) ?_
        have e1 : at_ + (n + 1 - at_) = n + 1 := by omega
        simp -implicitDefEqProofs [-leave, hv, h1, hne, w1, w2, w3, h3, h3', e1]
        repeat' (first | (refine appK2_if (by omega) ?_) | (refine appK2_else (by omega) ?_))
        simp -implicitDefEqProofs [-leave, hv, h1, hne, w1, w2, w3, h3, h3', e1]
        have hA1 : (List.take at_ fl ++ List.replicate (n + 1 - at_) [D.int IntKind.i64 0, D.int IntKind.i64 0]).length = n + 1 := by simp; omega
        generalize hA : List.take at_ fl ++ List.replicate (n + 1 - at_) [D.int IntKind.i64 0, D.int IntKind.i64 0] = A at *
        refine outK_slice (at_) (n + 1) (by simp; rfl) rfl (by first | rfl | omega | (simp [boundD]; done) | (simp [boundD]; omega) | (simp; done) | (simp; omega) | (simp [*]; done) | (simp [*]; omega)) (by first | rfl | omega | (simp [boundD]; done) | (simp [boundD]; omega) | (simp; done) | (simp; omega) | (simp [*]; done) | (simp [*]; omega)) (by omega) (by first | rfl | omega | (simp [boundD]; done) | (simp [boundD]; omega) | (simp; done) | (simp; omega) | (simp [*]; done) | (simp [*]; omega)) rfl (by first | rfl | omega | (simp [boundD]; done) | (simp [boundD]; omega) | (simp; done) | (simp; omega) | (simp [*]; done) | (simp [*]; omega)) ?_
        simp -implicitDefEqProofs [-leave, hv, h1, hne, w1, w2, h3, hv1, hT2]
        try refine overK_if (by first | omega | (simp; done) | (simp; omega)) ?_
        have hB1 := ovr_length (rows := A) (p := at_) (ys := [v]) (by simp; omega)
        generalize hB : ovr A at_ [v] = B at *
        simp -implicitDefEqProofs [-leave, hv, h1, hne, w1, w2, h3]
        refine outK_slice (at_ + 1) (n + 1) (by simp; rfl) rfl (by first | rfl | omega | (simp [boundD]; done) | (simp [boundD]; omega) | (simp; done) | (simp; omega) | (simp [*]; done) | (simp [*]; omega)) (by first | rfl | omega | (simp [boundD]; done) | (simp [boundD]; omega) | (simp; done) | (simp; omega) | (simp [*]; done) | (simp [*]; omega)) (by omega) (by first | rfl | omega | (simp [boundD]; done) | (simp [boundD]; omega) | (simp; done) | (simp; omega) | (simp [*]; done) | (simp [*]; omega)) rfl (by first | rfl | omega | (simp [boundD]; done) | (simp [boundD]; omega) | (simp; done) | (simp; omega) | (simp [*]; done) | (simp [*]; omega)) ?_
        simp -implicitDefEqProofs [-leave, hv, h1, hne, w1, w2, h3]
        refine outK_slice (at_) (n) (by simp; rfl) rfl (by first | rfl | omega | (simp [boundD]; done) | (simp [boundD]; omega) | (simp; done) | (simp; omega) | (simp [*]; done) | (simp [*]; omega)) (by first | rfl | omega | (simp [boundD]; done) | (simp [boundD]; omega) | (simp; done) | (simp; omega) | (simp [*]; done) | (simp [*]; omega)) (by omega) (by first | rfl | omega | (simp [boundD]; done) | (simp [boundD]; omega) | (simp; done) | (simp; omega) | (simp [*]; done) | (simp [*]; omega)) rfl (by first | rfl | omega | (simp [boundD]; done) | (simp [boundD]; omega) | (simp; done) | (simp; omega) | (simp [*]; done) | (simp [*]; omega)) ?_
        simp -implicitDefEqProofs [-leave, hv, h1, hne, w1, w2, h3, hfit, hT3]
        refine ⟨hrr _, ?_⟩
        try refine overK_if (by first | omega | (simp; done) | (simp; omega)) ?_
        try simp -implicitDefEqProofs [-leave, hv, h1, hne, w1, w2, h3]
        rw [leave_new (by omega) rfl rfl (by simpa using hfs)]
        simp [hA, hB]
      · exact outRows_of rfl rfl rfl (by
          have hA1 : (List.take at_ fl ++ List.replicate (n + 1 - at_) (TT 204).zero).length = n + 1 := by simp; omega
          show 0 + (n + 1) ≤ (ovr (ovr _ at_ [v]) (at_ + 1) _).length
          rw [ovr_length (by rw [ovr_length (by rw [hA1]; simp; omega), hA1]; omega), ovr_length (by rw [hA1]; simp; omega), hA1]; omega) (ins_rowsB hn hlt h3 htake) (.inr (by omega))
theorem clone_Item (rows : List (List D)) (hf : Fits 5 rows) (hl : rows.length * 40 ≤ 140737488355328) : Den PP 124 [.sl rows rows.length] [] (.ref 0 0 rows.length) [⟨rows, 5, .mut⟩] := by
  cases hr : rows with
  | nil =>
    refine den_zs (pre := []) (post := []) ?_ ?_
    · refine den_of [] [] is_slices_Clone_api_Item_api_Item ?_
      simp -implicitDefEqProofs [c_slices_Clone_api_Item_api_Item]
    · refine den_of [] [] is_slices_Clone_api_Item_api_Item ?_
      simp -implicitDefEqProofs [c_slices_Clone_api_Item_api_Item, Fits]
  | cons r rs =>
    rw [hr] at hf hl
    have h63 : (r :: rs).length ≤ 9223372036854775807 := by omega
    have hlen : 0 < (r :: rs).length := by simp
    generalize hn : (r :: rs).length = n at *
    generalize r :: rs = rows at *
    refine den_of [] [] is_slices_Clone_api_Item_api_Item ?_
    simp -implicitDefEqProofs [c_slices_Clone_api_Item_api_Item, hlen, List.take_of_length_le (Nat.le_of_eq hn), hf, hn, hl, h63]
theorem insert_Item (rows : List (List D)) (v : List D) (at_ : Nat) (hf : Fits 5 rows) (hst : StillR rows) (hv : Fits 5 [v]) (hvs : ∀ d ∈ v, d.still = true) (hat : at_ ≤ rows.length) (hl : rows.length ≤ 1000000) :
    GivesC (DenF PP [0]) 128 rows 5 [.int .i64 at_, .sl [v] 1] (insL rows at_ v) := by
  refine gives_of (fun r hr => (hf r hr).1) hst fun fl hfl hrow hfs htake hget => ?_
  have hv1 : v.length = 5 := (hv v (by simp)).1
  obtain ⟨c0, cs0, hvv⟩ : ∃ c0 cs0, v = c0 :: cs0 := by
    cases v with
    | nil => simp at hv1
    | cons a b => exact ⟨a, b, rfl⟩
  have hvS : StillR [v] := by intro r hr; rw [List.mem_singleton.1 hr]; exact hvs
  generalize hn : rows.length = n at *
  have w1 : IntKind.wrap .i64 ((n : Int) + 1) = n + 1 := wrap_in (by omega) (by omega)
  have w2 : IntKind.wrap .i64 ((at_ : Int) + 1) = at_ + 1 := wrap_in (by omega) (by omega)
  have w3 : IntKind.wrap .i64 ((n : Int) + 1 - at_) = ((n + 1 - at_ : Nat) : Int) := by rw [wrap_in (by omega) (by omega)]; omega
  by_cases h1 : at_ = n
  · subst h1
    by_cases h2 : at_ + 1 ≤ fl.length
    · refine ⟨.ref 0 0 (at_ + 1), [⟨ovr fl at_ [v], 5, .mut⟩], ?_, ?_⟩
      · refine denF_of [] [66] [] [197] (by simp) ovls197 is_slices_Insert_api_Item_api_Item ?_
        simp -implicitDefEqProofs [-leave, c_slices_Insert_api_Item_api_Item]
        refine outK_slice (at_) (at_) (by simp; rfl) rfl (by first | rfl | omega | (simp [boundD]; done) | (simp [boundD]; omega) | (simp; done) | (simp; omega) | (simp [*]; done) | (simp [*]; omega)) (by first | rfl | omega | (simp [boundD]; done) | (simp [boundD]; omega) | (simp; done) | (simp; omega) | (simp [*]; done) | (simp [*]; omega)) (by omega) (by first | rfl | omega | (simp [boundD]; done) | (simp [boundD]; omega) | (simp; done) | (simp; omega) | (simp [*]; done) | (simp [*]; omega)) rfl (by first | rfl | omega | (simp [boundD]; done) | (simp [boundD]; omega) | (simp; done) | (simp; omega) | (simp [*]; done) | (simp [*]; omega)) ?_
        simp -implicitDefEqProofs [-leave, hv]
        repeat' (first | (refine appK2_if (by omega) ?_) | (refine appK2_else (by omega) ?_))
        simp -implicitDefEqProofs [-leave, hv, h2]
        rw [leave_lent (by omega) (by simpa using ((hfs.take _).append hvS).append (hfs.drop _))]
        simp [ovr]
      · exact outRows_of rfl rfl rfl (by rw [ovr_length (by simpa using h2)]; omega) (ins_rows1 hn h2 htake) (.inl rfl)
    · have h3 : fl.length = at_ := by omega
      refine ⟨.ref 1 0 (at_ + 1), [⟨fl, 5, .mut⟩, ⟨fl.take at_ ++ [v], 5, .mut⟩], ?_, ?_⟩
      · refine denF_of [] [66] [] [197] (by simp) ovls197 is_slices_Insert_api_Item_api_Item ?_
        simp -implicitDefEqProofs [-leave, c_slices_Insert_api_Item_api_Item]
        by_cases h0 : at_ = 0
        · refine outK_slice (at_) (at_) (by simp; rfl) rfl (by first | rfl | omega | (simp [boundD]; done) | (simp [boundD]; omega) | (simp; done) | (simp; omega) | (simp [*]; done) | (simp [*]; omega)) (by first | rfl | omega | (simp [boundD]; done) | (simp [boundD]; omega) | (simp; done) | (simp; omega) | (simp [*]; done) | (simp [*]; omega)) (by omega) (by first | rfl | omega | (simp [boundD]; done) | (simp [boundD]; omega) | (simp; done) | (simp; omega) | (simp [*]; done) | (simp [*]; omega)) rfl (by first | rfl | omega | (simp [boundD]; done) | (simp [boundD]; omega) | (simp; done) | (simp; omega) | (simp [*]; done) | (simp [*]; omega)) ?_
          simp -implicitDefEqProofs [-leave, hv, h3]
          repeat' (first | (refine appK2_if (by omega) ?_) | (refine appK2_else (by omega) ?_))
          simp -implicitDefEqProofs [-leave, hv, h3]
          rw [leave_new (by omega) rfl rfl (by simpa using hfs)]
          rfl
        · refine outK_sliceE (at_) (by simp; rfl) rfl (by first | rfl | omega | (simp [boundD]; done) | (simp [boundD]; omega) | (simp; done) | (simp; omega) | (simp [*]; done) | (simp [*]; omega)) (by first | rfl | omega | (simp [boundD]; done) | (simp [boundD]; omega) | (simp; done) | (simp; omega) | (simp [*]; done) | (simp [*]; omega)) (by first | rfl | omega | (simp [boundD]; done) | (simp [boundD]; omega) | (simp; done) | (simp; omega) | (simp [*]; done) | (simp [*]; omega)) rfl (by omega) ?_
          simp -implicitDefEqProofs [-leave, hv, h3]
          repeat' (first | (refine appK2_if (by omega) ?_) | (refine appK2_else (by omega) ?_))
          simp -implicitDefEqProofs [-leave, hv, h3]
          rw [leave_new (by omega) rfl rfl (by simpa using hfs)]
          rfl
      · exact outRows_of rfl rfl rfl (by simp; omega) (ins_rows2 hn htake) (.inr (by omega))
  · have hlt : at_ < n := by omega
    have hT1 : ∀ X : List (List D), List.take (n - at_) (List.take (n + 1 - at_) X) = List.take (n - at_) X := by
      intro X
      rw [List.take_take]
      congr 1
      omega
    have hfit : Fits 5 (List.take (n - at_) (List.drop at_ fl)) := by
      intro r hr
      rw [← List.drop_take, htake] at hr
      exact hf r (List.mem_of_mem_drop hr)
    have hrr : ∀ m, ∀ r ∈ List.take m (List.drop at_ fl), r.length = 5 := fun m r hr => hrow r (List.mem_of_mem_drop (List.mem_of_mem_take hr))
    have hT3 : ∀ X : List (List D), List.take (n - at_) (List.take (n - at_) X) = List.take (n - at_) X := by intro X; rw [List.take_take]; congr 1; omega
    have hT2 : List.take (n + 1 - at_) [v] = [v] := List.take_of_length_le (by simp; omega)
    have hap : ∀ (fl' : List (List D)) (bs : List Blk) (o l : Nat), apartD (⟨fl', 5, .mut⟩ :: bs) [.sl [v] 1, .ref 0 o l] = true := by
      intro _ _ _ _
      rw [hvv]
      rfl
    have hyl : (List.take (n - at_) (List.drop at_ fl)).length = n - at_ := by simp; omega
    have hne : ¬ (at_ : Int) = n := by omega
    by_cases h2 : n + 1 ≤ fl.length
    · have h2' : ¬ ((fl.length : Int) < (n : Int) + 1) := by omega
      refine ⟨.ref 0 0 (n + 1), [⟨ovr (ovr fl (at_ + 1) ((fl.drop at_).take (n - at_))) at_ [v], 5, .mut⟩], ?_, ?_⟩
      · refine denF_of [] [66] [] [197] (by simp) ovls197 is_slices_Insert_api_Item_api_Item ?_
        simp -implicitDefEqProofs [-leave, c_slices_Insert_api_Item_api_Item]
        refine outK_slice (at_) (n) (by simp; rfl) rfl (by first | rfl | omega | (simp [boundD]; done) | (simp [boundD]; omega) | (simp; done) | (simp; omega) | (simp [*]; done) | (simp [*]; omega)) (by first | rfl | omega | (simp [boundD]; done) | (simp [boundD]; omega) | (simp; done) | (simp; omega) | (simp [*]; done) | (simp [*]; omega)) (by omega) (by first | rfl | omega | (simp [boundD]; done) | (simp [boundD]; omega) | (simp; done) | (simp; omega) | (simp [*]; done) | (simp [*]; omega)) rfl (by first | rfl | omega | (simp [boundD]; done) | (simp [boundD]; omega) | (simp; done) | (simp; omega) | (simp [*]; done) | (simp [*]; omega)) ?_
        simp -implicitDefEqProofs [-leave, hv, h1, hne, w1, w2, h2']
        refine outK_slice (0) (n + 1) (by simp; rfl) rfl (by first | rfl | omega | (simp [boundD]; done) | (simp [boundD]; omega) | (simp; done) | (simp; omega) | (simp [*]; done) | (simp [*]; omega)) (by first | rfl | omega | (simp [boundD]; done) | (simp [boundD]; omega) | (simp; done) | (simp; omega) | (simp [*]; done) | (simp [*]; omega)) (by omega) (by first | rfl | omega | (simp [boundD]; done) | (simp [boundD]; omega) | (simp; done) | (simp; omega) | (simp [*]; done) | (simp [*]; omega)) rfl (by first | rfl | omega | (simp [boundD]; done) | (simp [boundD]; omega) | (simp; done) | (simp; omega) | (simp [*]; done) | (simp [*]; omega)) ?_
        simp -implicitDefEqProofs [-leave, hv, h1, hne, w1, w2, h2']
        refine outK_slice (at_ + 1) (n + 1) (by simp; rfl) rfl (by first | rfl | omega | (simp [boundD]; done) | (simp [boundD]; omega) | (simp; done) | (simp; omega) | (simp [*]; done) | (simp [*]; omega)) (by first | rfl | omega | (simp [boundD]; done) | (simp [boundD]; omega) | (simp; done) | (simp; omega) | (simp [*]; done) | (simp [*]; omega)) (by omega) (by first | rfl | omega | (simp [boundD]; done) | (simp [boundD]; omega) | (simp; done) | (simp; omega) | (simp [*]; done) | (simp [*]; omega)) rfl (by first | rfl | omega | (simp [boundD]; done) | (simp [boundD]; omega) | (simp; done) | (simp; omega) | (simp [*]; done) | (simp [*]; omega)) ?_
        simp -implicitDefEqProofs [-leave, hv, h1, hne, w1, w2, h2', hap]
        refine outK_slice (at_ + 1) (n + 1) (by simp; rfl) rfl (by first | rfl | omega | (simp [boundD]; done) | (simp [boundD]; omega) | (simp; done) | (simp; omega) | (simp [*]; done) | (simp [*]; omega)) (by first | rfl | omega | (simp [boundD]; done) | (simp [boundD]; omega) | (simp; done) | (simp; omega) | (simp [*]; done) | (simp [*]; omega)) (by omega) (by first | rfl | omega | (simp [boundD]; done) | (simp [boundD]; omega) | (simp; done) | (simp; omega) | (simp [*]; done) | (simp [*]; omega)) rfl (by first | rfl | omega | (simp [boundD]; done) | (simp [boundD]; omega) | (simp; done) | (simp; omega) | (simp [*]; done) | (simp [*]; omega)) ?_
        simp -implicitDefEqProofs [-leave, hv, h1, hne, w1, w2, h2']
        refine outK_slice (at_) (n + 1) (by simp; rfl) rfl (by first | rfl | omega | (simp [boundD]; done) | (simp [boundD]; omega) | (simp; done) | (simp; omega) | (simp [*]; done) | (simp [*]; omega)) (by first | rfl | omega | (simp [boundD]; done) | (simp [boundD]; omega) | (simp; done) | (simp; omega) | (simp [*]; done) | (simp [*]; omega)) (by omega) (by first | rfl | omega | (simp [boundD]; done) | (simp [boundD]; omega) | (simp; done) | (simp; omega) | (simp [*]; done) | (simp [*]; omega)) rfl (by first | rfl | omega | (simp [boundD]; done) | (simp [boundD]; omega) | (simp; done) | (simp; omega) | (simp [*]; done) | (simp [*]; omega)) ?_
        simp -implicitDefEqProofs [-leave, hv, h1, hne, w1, w2, h2', hT1, hfit]
        refine ⟨hrr _, ?_⟩
        try refine overK_if (by first | omega | (simp; done) | (simp; omega)) ?_
        have hB1 := ovr_length (rows := fl) (p := at_ + 1) (ys := List.take (n - at_) (List.drop at_ fl)) (by omega)
        have hBS := hfs.ovr ((hfs.drop at_).take (n - at_)) (at_ + 1)
        generalize hB : ovr fl (at_ + 1) (List.take (n - at_) (List.drop at_ fl)) = B at *
        simp -implicitDefEqProofs [-leave, hv, h1, hne, w1, w2, h2']
        refine outK_slice (at_) (n + 1) (by simp; rfl) rfl (by first | rfl | omega | (simp [boundD]; done) | (simp [boundD]; omega) | (simp; done) | (simp; omega) | (simp [*]; done) | (simp [*]; omega)) (by first | rfl | omega | (simp [boundD]; done) | (simp [boundD]; omega) | (simp; done) | (simp; omega) | (simp [*]; done) | (simp [*]; omega)) (by omega) (by first | rfl | omega | (simp [boundD]; done) | (simp [boundD]; omega) | (simp; done) | (simp; omega) | (simp [*]; done) | (simp [*]; omega)) rfl (by first | rfl | omega | (simp [boundD]; done) | (simp [boundD]; omega) | (simp; done) | (simp; omega) | (simp [*]; done) | (simp [*]; omega)) ?_
        simp -implicitDefEqProofs [-leave, hv, h1, hne, w1, w2, h2', hv1, hT2]
        try refine overK_if (by first | omega | (simp; done) | (simp; omega)) ?_
        simp -implicitDefEqProofs [-leave, hv, h1, hne, w1, w2, h2']
        rw [leave_lent (by omega) (by simpa using hBS.ovr hvS at_)]
        rfl
      · exact outRows_of rfl rfl rfl (by show 0 + (n + 1) ≤ (ovr (ovr fl (at_ + 1) _) at_ [v]).length; rw [ovr_length (by rw [ovr_length (by omega)]; simp; omega), ovr_length (by omega)]; omega) (ins_rowsC hn hlt h2 htake) (.inl rfl)
    · have h3 : fl.length = n := by omega
      have h3' : (n : Int) < (n : Int) + 1 := by omega
      refine ⟨.ref 1 0 (n + 1), [⟨fl, 5, .mut⟩, ⟨ovr (ovr (fl.take at_ ++ List.replicate (n + 1 - at_) (TT 46).zero) at_ [v]) (at_ + 1) ((fl.drop at_).take (n - at_)), 5, .mut⟩], ?_, ?_⟩
      · refine denF_of [] [66] [] [197] (by simp) ovls197 is_slices_Insert_api_Item_api_Item ?_
        simp -implicitDefEqProofs [-leave, c_slices_Insert_api_Item_api_Item]
        refine outK_slice (at_) (n) (by simp; rfl) rfl (by first | rfl | omega | (simp [boundD]; done) | (simp [boundD]; omega) | (simp; done) | (simp; omega) | (simp [*]; done) | (simp [*]; omega)) (by first | rfl | omega | (simp [boundD]; done) | (simp [boundD]; omega) | (simp; done) | (simp; omega) | (simp [*]; done) | (simp [*]; omega)) (by omega) (by first | rfl | omega | (simp [boundD]; done) | (simp [boundD]; omega) | (simp; done) | (simp; omega) | (simp [*]; done) | (simp [*]; omega)) rfl (by first | rfl | omega | (simp [boundD]; done) | (simp [boundD]; omega) | (simp; done) | (simp; omega) | (simp [*]; done) | (simp [*]; omega)) ?_
        simp -implicitDefEqProofs [-leave, hv, h1, hne, w1, w2, h3, h3']
        refine outK_slice (0) (at_) (by simp; rfl) rfl (by first | rfl | omega | (simp [boundD]; done) | (simp [boundD]; omega) | (simp; done) | (simp; omega) | (simp [*]; done) | (simp [*]; omega)) (by first | rfl | omega | (simp [boundD]; done) | (simp [boundD]; omega) | (simp; done) | (simp; omega) | (simp [*]; done) | (simp [*]; omega)) (by omega) (by first | rfl | omega | (simp [boundD]; done) | (simp [boundD]; omega) | (simp; done) | (simp; omega) | (simp [*]; done) | (simp [*]; omega)) rfl (by first | rfl | omega | (simp [boundD]; done) | (simp [boundD]; omega) | (simp; done) | (simp; omega) | (simp [*]; done) | (simp [*]; omega)) ?_
        simp -implicitDefEqProofs [-leave, hv, h1, hne, w1, w2, w3, h3, h3']
        refine appK_if (by omega) ?_
        have e1 : at_ + (n + 1 - at_) = n + 1 := by omega
        simp -implicitDefEqProofs [-leave, hv, h1, hne, w1, w2, w3, h3, h3', e1]
        repeat' (first | (refine appK2_if (by omega) ?_) | (refine appK2_else (by omega) ?_))
        simp -implicitDefEqProofs [-leave, hv, h1, hne, w1, w2, w3, h3, h3', e1]
        have hA1 : (List.take at_ fl ++ List.replicate (n + 1 - at_) [D.int IntKind.i64 0, D.int IntKind.i64 0, D.int IntKind.i64 0, D.int IntKind.i64 0, D.bool false]).length = n + 1 := by simp; omega
        generalize hA : List.take at_ fl ++ List.replicate (n + 1 - at_) [D.int IntKind.i64 0, D.int IntKind.i64 0, D.int IntKind.i64 0, D.int IntKind.i64 0, D.bool false] = A at *
        refine outK_slice (at_) (n + 1) (by simp; rfl) rfl (by first | rfl | omega | (simp [boundD]; done) | (simp [boundD]; omega) | (simp; done) | (simp; omega) | (simp [*]; done) | (simp [*]; omega)) (by first | rfl | omega | (simp [boundD]; done) | (simp [boundD]; omega) | (simp; done) | (simp; omega) | (simp [*]; done) | (simp [*]; omega)) (by omega) (by first | rfl | omega | (simp [boundD]; done) | (simp [boundD]; omega) | (simp; done) | (simp; omega) | (simp [*]; done) | (simp [*]; omega)) rfl (by first | rfl | omega | (simp [boundD]; done) | (simp [boundD]; omega) | (simp; done) | (simp; omega) | (simp [*]; done) | (simp [*]; omega)) ?_
        simp -implicitDefEqProofs [-leave, hv, h1, hne, w1, w2, h3, hv1, hT2]
        try refine overK_if (by first | omega | (simp; done) | (simp; omega)) ?_
        have hB1 := ovr_length (rows := A) (p := at_) (ys := [v]) (by simp; omega)
        generalize hB : ovr A at_ [v] = B at *
        simp -implicitDefEqProofs [-leave, hv, h1, hne, w1, w2, h3]
        refine outK_slice (at_ + 1) (n + 1) (by simp; rfl) rfl (by first | rfl | omega | (simp [boundD]; done) | (simp [boundD]; omega) | (simp; done) | (simp; omega) | (simp [*]; done) | (simp [*]; omega)) (by first | rfl | omega | (simp [boundD]; done) | (simp [boundD]; omega) | (simp; done) | (simp; omega) | (simp [*]; done) | (simp [*]; omega)) (by omega) (by first | rfl | omega | (simp [boundD]; done) | (simp [boundD]; omega) | (simp; done) | (simp; omega) | (simp [*]; done) | (simp [*]; omega)) rfl (by first | rfl | omega | (simp [boundD]; done) | (simp [boundD]; omega) | (simp; done) | (simp; omega) | (simp [*]; done) | (simp [*]; omega)) ?_
        simp -implicitDefEqProofs [-leave, hv, h1, hne, w1, w2, h3]
        refine outK_slice (at_) (n) (by simp; rfl) rfl (by first | rfl | omega | (simp [boundD]; done) | (simp [boundD]; omega) | (simp; done) | (simp; omega) | (simp [*]; done) | (simp [*]; omega)) (by first | rfl | omega | (simp [boundD]; done) | (simp [boundD]; omega) | (simp; done) | (simp; omega) | (simp [*]; done) | (simp [*]; omega)) (by omega) (by first | rfl | omega | (simp [boundD]; done) | (simp [boundD]; omega) | (simp; done) | (simp; omega) | (simp [*]; done) | (simp [*]; omega)) rfl (by first | rfl | omega | (simp [boundD]; done) | (simp [boundD]; omega) | (simp; done) | (simp; omega) | (simp [*]; done) | (simp [*]; omega)) ?_
        simp -implicitDefEqProofs [-leave, hv, h1, hne, w1, w2, h3, hfit, hT3]
        refine ⟨hrr _, ?_⟩
        try refine overK_if (by first | omega | (simp; done) | (simp; omega)) ?_
        try simp -implicitDefEqProofs [-leave, hv, h1, hne, w1, w2, h3]
        rw [leave_new (by omega) rfl rfl (by simpa using hfs)]
        simp [hA, hB]
      · exact outRows_of rfl rfl rfl (by
          have hA1 : (List.take at_ fl ++ List.replicate (n + 1 - at_) (TT 46).zero).length = n + 1 := by simp; omega
          show 0 + (n + 1) ≤ (ovr (ovr _ at_ [v]) (at_ + 1) _).length
          rw [ovr_length (by rw [ovr_length (by rw [hA1]; simp; omega), hA1]; omega), ovr_length (by rw [hA1]; simp; omega), hA1]; omega) (ins_rowsB hn hlt h3 htake) (.inr (by omega))
theorem clone_Told (rows : List (List D)) (hf : Fits 3 rows) (hl : rows.length * 24 ≤ 140737488355328) : Den PP 170 [.sl rows rows.length] [] (.ref 0 0 rows.length) [⟨rows, 3, .mut⟩] := by
  cases hr : rows with
  | nil =>
    refine den_zs (pre := []) (post := []) ?_ ?_
    · refine den_of [] [] is_slices_Clone_api_Told_api_Told ?_
      simp -implicitDefEqProofs [c_slices_Clone_api_Told_api_Told]
    · refine den_of [] [] is_slices_Clone_api_Told_api_Told ?_
      simp -implicitDefEqProofs [c_slices_Clone_api_Told_api_Told, Fits]
  | cons r rs =>
    rw [hr] at hf hl
    have h63 : (r :: rs).length ≤ 9223372036854775807 := by omega
    have hlen : 0 < (r :: rs).length := by simp
    generalize hn : (r :: rs).length = n at *
    generalize r :: rs = rows at *
    refine den_of [] [] is_slices_Clone_api_Told_api_Told ?_
    simp -implicitDefEqProofs [c_slices_Clone_api_Told_api_Told, hlen, List.take_of_length_le (Nat.le_of_eq hn), hf, hn, hl, h63]
end Go.AM
/- AM: contracts: slices.Delete of one. -/
namespace Go.AM
set_option linter.unusedSimpArgs false
set_option linter.unusedVariables false
set_option maxRecDepth 8000
set_option maxHeartbeats 0
theorem delete_Msg (rows : List (List D)) (p : Nat) (hf : Fits 11 rows) (hst : StillR rows) (hp : p < rows.length) (hl : rows.length ≤ 1000000) :
    GivesC (DenF PP [0]) 236 rows 11 [.int .i64 p, .int .i64 ((p : Int) + 1)] (rows.take p ++ rows.drop (p + 1)) := by
  refine gives_of (fun r hr => (hf r hr).1) hst fun fl hfl hrow hfs htake hget => ?_
  have hzs : StillR [([D.int IntKind.i64 0, D.int IntKind.i64 0, D.int IntKind.i64 0, D.nil, D.int IntKind.i64 0, D.int IntKind.i64 0, D.int IntKind.i64 0, D.int IntKind.i64 0, D.int IntKind.i64 0, D.bool false, D.bool false] : List D)] := by intro r hr d hd; rw [List.mem_singleton.1 hr] at hd; exact List.all_eq_true.1 (rfl : ([D.int IntKind.i64 0, D.int IntKind.i64 0, D.int IntKind.i64 0, D.nil, D.int IntKind.i64 0, D.int IntKind.i64 0, D.int IntKind.i64 0, D.int IntKind.i64 0, D.int IntKind.i64 0, D.bool false, D.bool false] : List D).all D.still = true) d hd
  generalize hn : rows.length = n at *
  have hfit : Fits 11 (List.take (n - (p + 1)) (List.drop (p + 1) fl)) := by
    intro r hr
    have : r ∈ rows := by
      rw [← htake]
      have h1 : List.take (n - (p + 1)) (List.drop (p + 1) fl) = List.drop (p + 1) (List.take n fl) := by rw [List.drop_take]
      rw [h1] at hr
      exact List.mem_of_mem_drop hr
    exact hf r this
  have hyl : (List.take (n - (p + 1)) (List.drop (p + 1) fl)).length = n - (p + 1) := by simp; omega
  have hne : ¬ (p : Int) = (p : Int) + 1 := by omega
  have hcl : (fl.take p ++ (List.take (n - (p + 1)) (List.drop (p + 1) fl) ++ fl.drop (n - 1))).length = fl.length := by simp; omega
  have hmin : p + min (n - (p + 1)) (fl.length - (p + 1)) = n - 1 := by omega
  have hmin2 : (p : Int) + ((min (n - (p + 1)) (fl.length - (p + 1)) : Nat) : Int) = ((n - 1 : Nat) : Int) := by omega
  have hpn : p + (n - (p + 1)) = n - 1 := by omega
  have hcS : StillR (fl.take p ++ (List.take (n - (p + 1)) (List.drop (p + 1) fl) ++ fl.drop (n - 1))) := (hfs.take _).append (((hfs.drop _).take _).append (hfs.drop _))
  refine ⟨.ref 0 0 (n - 1), [⟨ovr (fl.take p ++ (List.take (n - (p + 1)) (List.drop (p + 1) fl) ++ fl.drop (n - 1))) (n - 1) [[D.int IntKind.i64 0, D.int IntKind.i64 0, D.int IntKind.i64 0, D.nil, D.int IntKind.i64 0, D.int IntKind.i64 0, D.int IntKind.i64 0, D.int IntKind.i64 0, D.int IntKind.i64 0, D.bool false, D.bool false]], 11, .mut⟩], ?_, ?_⟩
  · refine denF_of [] [] [] [] (by simp) (fun _ h => absurd h List.not_mem_nil) is_slices_Delete_api_Msg_api_Msg ?_
    simp -implicitDefEqProofs [-leave, c_slices_Delete_api_Msg_api_Msg]
    refine pureV_if (by simp [boundD]; omega) ?_
    simp -implicitDefEqProofs [-leave, hne]
    refine outK_slice (0) (p) (by simp; rfl) rfl (by first | rfl | omega | (simp [boundD]; done) | (simp [boundD]; omega) | (simp; done) | (simp; omega) | (simp [*]; done) | (simp [*]; omega)) (by first | rfl | omega | (simp [boundD]; done) | (simp [boundD]; omega) | (simp; done) | (simp; omega) | (simp [*]; done) | (simp [*]; omega)) (by omega) (by first | rfl | omega | (simp [boundD]; done) | (simp [boundD]; omega) | (simp; done) | (simp; omega) | (simp [*]; done) | (simp [*]; omega)) rfl (by first | rfl | omega | (simp [boundD]; done) | (simp [boundD]; omega) | (simp; done) | (simp; omega) | (simp [*]; done) | (simp [*]; omega)) ?_
    simp -implicitDefEqProofs [-leave, hne]
    by_cases hE : p + 1 < fl.length
    · refine outK_slice (p + 1) (n) (by simp; rfl) rfl (by first | rfl | omega | (simp [boundD]; done) | (simp [boundD]; omega) | (simp; done) | (simp; omega) | (simp [*]; done) | (simp [*]; omega)) (by first | rfl | omega | (simp [boundD]; done) | (simp [boundD]; omega) | (simp; done) | (simp; omega) | (simp [*]; done) | (simp [*]; omega)) (by omega) (by first | rfl | omega | (simp [boundD]; done) | (simp [boundD]; omega) | (simp; done) | (simp; omega) | (simp [*]; done) | (simp [*]; omega)) rfl (by first | rfl | omega | (simp [boundD]; done) | (simp [boundD]; omega) | (simp; done) | (simp; omega) | (simp [*]; done) | (simp [*]; omega)) ?_
      simp -implicitDefEqProofs [-leave, hne, hfit]
      repeat' (first | (refine appK2_if (by omega) ?_) | (refine appK2_else (by omega) ?_))
      simp -implicitDefEqProofs [-leave, hne, hyl, hpn, hmin, hmin2]
      generalize (fl.take p ++ (List.take (n - (p + 1)) (List.drop (p + 1) fl) ++ fl.drop (n - 1))) = B at *
      refine outK_slice (n - 1) (n) (by simp; rfl) rfl (by first | rfl | omega | (simp [boundD]; done) | (simp [boundD]; omega) | (simp; done) | (simp; omega) | (simp [*]; done) | (simp [*]; omega)) (by first | rfl | omega | (simp [boundD]; done) | (simp [boundD]; omega) | (simp; done) | (simp; omega) | (simp [*]; done) | (simp [*]; omega)) (by omega) (by first | rfl | omega | (simp [boundD]; done) | (simp [boundD]; omega) | (simp; done) | (simp; omega) | (simp [*]; done) | (simp [*]; omega)) rfl (by first | rfl | omega | (simp [boundD]; done) | (simp [boundD]; omega) | (simp; done) | (simp; omega) | (simp [*]; done) | (simp [*]; omega)) ?_
      simp -implicitDefEqProofs [-leave, hne]
      try refine overK_if (by first | omega | (simp; done) | (simp; omega)) ?_
      have hnn : n - (n - 1) = 1 := by omega
      try simp -implicitDefEqProofs [-leave, hne, hnn]
      rw [leave_lent (by omega) (by simpa [hnn] using hcS.ovr hzs (n - 1))]
      simp [hnn]
    · obtain rfl : n = p + 1 := by omega
      have hB : fl.take p ++ (List.take (p + 1 - (p + 1)) (List.drop (p + 1) fl) ++ fl.drop (p + 1 - 1)) = fl := by simp
      rw [hB] at *
      refine outK_sliceE (p + 1) (by simp; rfl) rfl (by first | rfl | omega | (simp [boundD]; done) | (simp [boundD]; omega) | (simp; done) | (simp; omega) | (simp [*]; done) | (simp [*]; omega)) (by first | rfl | omega | (simp [boundD]; done) | (simp [boundD]; omega) | (simp; done) | (simp; omega) | (simp [*]; done) | (simp [*]; omega)) (by first | rfl | omega | (simp [boundD]; done) | (simp [boundD]; omega) | (simp; done) | (simp; omega) | (simp [*]; done) | (simp [*]; omega)) rfl (by omega) ?_
      try simp -implicitDefEqProofs [-leave, hne]
      refine ⟨by simp [Fits], ?_⟩
      repeat' (first | (refine appK2_if (by omega) ?_) | (refine appK2_else (by omega) ?_))
      try simp -implicitDefEqProofs [-leave, hne]
      refine outK_slice (p) (p + 1) (by simp; rfl) rfl (by first | rfl | omega | (simp [boundD]; done) | (simp [boundD]; omega) | (simp; done) | (simp; omega) | (simp [*]; done) | (simp [*]; omega)) (by first | rfl | omega | (simp [boundD]; done) | (simp [boundD]; omega) | (simp; done) | (simp; omega) | (simp [*]; done) | (simp [*]; omega)) (by omega) (by first | rfl | omega | (simp [boundD]; done) | (simp [boundD]; omega) | (simp; done) | (simp; omega) | (simp [*]; done) | (simp [*]; omega)) rfl (by first | rfl | omega | (simp [boundD]; done) | (simp [boundD]; omega) | (simp; done) | (simp; omega) | (simp [*]; done) | (simp [*]; omega)) ?_
      simp -implicitDefEqProofs [-leave, hne]
      try refine overK_if (by first | omega | (simp; done) | (simp; omega)) ?_
      try simp -implicitDefEqProofs [-leave, hne]
      rw [leave_lent (by omega) (by simpa using hcS.ovr hzs p)]
      simp [Fits]
  · refine outRows_of rfl rfl rfl ?_ ?_ (.inl rfl)
    · rw [ovr_length (by rw [hcl]; simp; omega), hcl]
      omega
    · rw [List.drop_zero, ← htake]
      have h1 : (ovr (fl.take p ++ (List.take (n - (p + 1)) (List.drop (p + 1) fl) ++ fl.drop (n - 1))) (n - 1) [[D.int IntKind.i64 0, D.int IntKind.i64 0, D.int IntKind.i64 0, D.nil, D.int IntKind.i64 0, D.int IntKind.i64 0, D.int IntKind.i64 0, D.int IntKind.i64 0, D.int IntKind.i64 0, D.bool false, D.bool false]]).take (n - 1) = fl.take p ++ List.take (n - (p + 1)) (List.drop (p + 1) fl) := by
        unfold ovr
        rw [List.append_assoc, List.take_append_of_le_length (by simp; omega), List.take_take, Nat.min_self, ← List.append_assoc, List.take_left' (by simp; omega)]
      rw [h1, List.take_take, List.drop_take, Nat.min_eq_left (by omega)]
end Go.AM
/- AM: contracts: a view's ends, a key's owner. -/
namespace Go.AM
set_option linter.unusedSimpArgs false
set_option linter.unusedVariables false
set_option maxRecDepth 8000
set_option maxHeartbeats 0
end Go.AM
/- AM: contracts: a key's owner. -/
namespace Go.AM
set_option linter.unusedSimpArgs false
set_option linter.unusedVariables false
set_option maxRecDepth 8000
set_option maxHeartbeats 0
end Go.AM
/- AM: contracts: the document's answers about views. -/
namespace Go.AM
set_option linter.unusedSimpArgs false
set_option linter.unusedVariables false
set_option maxRecDepth 8000
set_option maxHeartbeats 0
theorem law_SameInts (xs ys : List Int) (hl : xs.length ≤ cap) : Den PP 104 [intsD xs, intsD ys] [] (.bool (decide (xs = ys))) [] := by
  refine den_of [] [] is_gimmallaw0_SameInts ?_
  simp -implicitDefEqProofs [c_gimmallaw0_SameInts, intsD]
  refine condC_split (fun h => ?_) (fun h => ?_)
  · simp -implicitDefEqProofs
    intro he
    subst he
    simp at h
  have hlen : xs.length = ys.length := by simp at h; omega
  simp -implicitDefEqProofs
  refine anyLoop_of (xs.length + 1) ?_
  have key : ∀ (Q : Ex → St → Prop) (r : Bool) (hQ1 : ∀ fr, r = true → Q .normal ⟨fr, []⟩) (hQ2 : ∀ fr bs, r = false → fr 4 = .bool false → Q .ret ⟨fr, bs⟩) (rest : List Int) (i : Nat) (fr : Nat → D), xs.drop i = rest → i ≤ xs.length →
      fr 0 = .sl (xs.map irow) xs.length → fr 1 = .sl (ys.map irow) ys.length → fr 5 = .int .i64 i → decide (rest = ys.drop i) = r → sLoop (cf 0 [] []) 0 c_gimmallaw0_SameInts_L0 (blockQ 0 Q) (rest.length + 1) ⟨fr, []⟩ := by
    intro Q r hQ1 hQ2 rest
    induction rest with
    | nil =>
      intro i fr e hi h0 h1 h5 hm
      refine sLoop_body c_gimmallaw0_SameInts_L0.eq_1 ?_
      have hi' := drop_nil e hi
      simp -implicitDefEqProofs [h0, h1, h5, hi']
      exact hQ1 _ (by rw [← hm, hi', hlen]; simp)
    | cons x rest ih =>
      intro i fr e hi h0 h1 h5 hm
      refine sLoop_body c_gimmallaw0_SameInts_L0.eq_1 ?_
      obtain ⟨hlt, hget, hd, hl2⟩ := drop_cons e
      have hlt' : (i : Int) < xs.length := by omega
      have hlt2 : (i : Int) < ys.length := by omega
      have hw := wrap_next (n := i) (by unfold cap at hl; omega)
      obtain ⟨y, hy⟩ : ∃ y, ys[i]? = some y := ⟨ys[i], by simp⟩
      have hyd : ys.drop i = y :: ys.drop (i + 1) := by
        rw [List.drop_eq_getElem_cons (by omega)]
        have : ys[i] = y := by
          have := (List.getElem?_eq_some_iff.1 hy).2
          exact this
        rw [this]
      simp -implicitDefEqProofs [h0, h1, h5, hlt', hlt2, hget, hy, irow]
      refine condC_split (fun h2 => ?_) (fun h2 => ?_)
      all_goals simp -implicitDefEqProofs [h2, h0, h1, h5, hw]
      · refine hQ2 _ _ ?_ (by rfl)
        rw [← hm, hyd]
        simp at h2
        simp [h2]
      · refine ih (i + 1) _ hd (by omega) (by simp [h0, h1, h5]) (by simp [h0, h1, h5]) (by simp) ?_
        rw [← hm, hyd]
        simp at h2
        simp [h2]
  refine key _ (decide (xs = ys)) (fun fr h => ?_) (fun fr bs h h2 => ?_) xs 0 _ rfl (Nat.zero_le _) rfl rfl rfl rfl
  · simp -implicitDefEqProofs [h]
  · simp -implicitDefEqProofs [h, h2]

end Go.AM
/- AM: contracts: the document's peers. -/
namespace Go.AM
set_option linter.unusedSimpArgs false
set_option linter.unusedVariables false
set_option maxRecDepth 8000
set_option maxHeartbeats 0
end Go.AM
/- AM: contracts: the document's answers about views. -/
namespace Go.AM
set_option linter.unusedSimpArgs false
set_option linter.unusedVariables false
set_option maxRecDepth 8000
set_option maxHeartbeats 0
theorem law_SamePeers (xs ys : List Peer) (hl : xs.length ≤ cap) : Den PP 176 [peersD xs, peersD ys] [] (.bool (decide (xs = ys))) [] := by
  refine den_of [] [] is_gimmallaw0_SamePeers ?_
  simp -implicitDefEqProofs [c_gimmallaw0_SamePeers, peersD]
  refine condC_split (fun h => ?_) (fun h => ?_)
  · simp -implicitDefEqProofs
    grind
  have hlen : xs.length = ys.length := by simp at h; omega
  simp -implicitDefEqProofs
  refine list_rule xs (fun i rest => fun ⟨fr, bs⟩ => bs = [] ∧ fr 0 = .sl (xs.map Peer.row) xs.length ∧ fr 1 = .sl (ys.map Peer.row) ys.length ∧ fr 5 = .int .i64 i ∧ (rest = ys.drop i ↔ xs = ys))
    (fun ⟨fr, bs⟩ => bs = [] ∧ xs = ys) (fun ⟨fr, bs⟩ => fr 4 = .bool false ∧ ¬ xs = ys) c_gimmallaw0_SamePeers_L0.eq_1 ?_ ?_ ?_ ?_ ?_
  · exact ⟨rfl, rfl, rfl, rfl, by simp⟩
  · rintro i ⟨fr, bs⟩ hi ⟨rfl, h0, h1, h5, he⟩
    simp -implicitDefEqProofs [*]
    grind
  · rintro i a rest ⟨fr, bs⟩ hlt hget hg hd hd2 ⟨rfl, h0, h1, h5, he⟩
    have hlt' : (i : Int) < xs.length := by omega
    have hlt2 : i < ys.length := by omega
    have hlt3 : (i : Int) < ys.length := by omega
    have hw := wrap_next (n := i) (by unfold cap at hl; omega)
    rw [List.drop_eq_getElem_cons hlt2] at he
    generalize hy : ys[i] = b at he
    simp -implicitDefEqProofs [h0, h1, h5, hlt, hlt', hlt2, hlt3, hget, hg, hy, Peer.row, EQS]
    repeat' ((first | with_reducible refine gOps_dec (fun _ => ?_) (fun _ => ?_) | with_reducible refine gOps_ndec (fun _ => ?_) (fun _ => ?_) | (with_reducible refine gOps_and (fun hq => ?_) (fun hq => ?_) <;> (try simp at hq)) | (with_reducible refine gOps_or (fun hq => ?_) (fun hq => ?_) <;> (try simp at hq)) | (with_reducible refine gOps_not (fun hq => ?_) (fun hq => ?_) <;> (try simp at hq)) | (with_reducible refine gOps_split (fun hq => ?_) (fun hq => ?_) <;> (try simp at hq)) | with_reducible refine condC_dec (fun _ => ?_) (fun _ => ?_) | with_reducible refine condC_ndec (fun _ => ?_) (fun _ => ?_) | (with_reducible refine condC_and (fun hq => ?_) (fun hq => ?_) <;> (try simp at hq)) | (with_reducible refine condC_or (fun hq => ?_) (fun hq => ?_) <;> (try simp at hq)) | (with_reducible refine condC_not (fun hq => ?_) (fun hq => ?_) <;> (try simp at hq)) | (with_reducible refine condC_split (fun hq => ?_) (fun hq => ?_) <;> (try simp at hq)) | refine appK2_if (by omega) ?_ | refine pureV_if (by omega) ?_) <;> simp -implicitDefEqProofs [*, EQS])
    all_goals (obtain ⟨a1, a2⟩ := a; obtain ⟨b1, b2⟩ := b; grind)
  · rintro ⟨fr, bs⟩ ⟨rfl, h6⟩
    simp -implicitDefEqProofs [*]
  · rintro ⟨fr, bs⟩ h
    simp -implicitDefEqProofs [h.1, h.2]
theorem law_SameView (v w : View) (hs : v.small) : Den PP 98 [viewD v, viewD w] [] (.bool (decide (v = w))) [] := by
  have h1 := law_SamePeers v.peers w.peers (cap_of hs.1)
  have h2 := law_SameInts v.passive w.passive hs.2
  simp [peersD, intsD] at h1 h2
  refine den_of [] [] is_gimmallaw0_SameView ?_
  simp -implicitDefEqProofs [c_gimmallaw0_SameView, viewD, View.cells, peersD, intsD]
  repeat' ((first | refine callThen_of (by first | exact h1 | exact h2) ?_ | with_reducible refine gOps_dec (fun _ => ?_) (fun _ => ?_) | with_reducible refine gOps_ndec (fun _ => ?_) (fun _ => ?_) | (with_reducible refine gOps_and (fun hq => ?_) (fun hq => ?_) <;> (try simp at hq)) | (with_reducible refine gOps_or (fun hq => ?_) (fun hq => ?_) <;> (try simp at hq)) | (with_reducible refine gOps_not (fun hq => ?_) (fun hq => ?_) <;> (try simp at hq)) | (with_reducible refine gOps_split (fun hq => ?_) (fun hq => ?_) <;> (try simp at hq)) | with_reducible refine condC_dec (fun _ => ?_) (fun _ => ?_) | with_reducible refine condC_ndec (fun _ => ?_) (fun _ => ?_) | (with_reducible refine condC_and (fun hq => ?_) (fun hq => ?_) <;> (try simp at hq)) | (with_reducible refine condC_or (fun hq => ?_) (fun hq => ?_) <;> (try simp at hq)) | (with_reducible refine condC_not (fun hq => ?_) (fun hq => ?_) <;> (try simp at hq)) | (with_reducible refine condC_split (fun hq => ?_) (fun hq => ?_) <;> (try simp at hq)) | refine appK2_if (by omega) ?_ | refine pureV_if (by omega) ?_) <;> simp -implicitDefEqProofs [*, peersD])
  all_goals (obtain ⟨a, b, c⟩ := v; obtain ⟨a', b', c'⟩ := w; grind)
theorem law_CopyView (v : View) (hs : v.small) : Den PP 83 [viewD v] [] (.agg [.int .i64 v.id, .ref 0 0 v.peers.length, .ref 1 0 v.passive.length]) [⟨v.peers.map Peer.row, 2, .mut⟩, ⟨v.passive.map irow, 1, .mut⟩] := by
  obtain ⟨h1, h2⟩ := hs
  unfold cap16 at h1
  unfold cap at h2
  refine den_of [] [] is_gimmallaw0_CopyView ?_
  simp -implicitDefEqProofs [c_gimmallaw0_CopyView, viewD, View.cells, peersD, intsD]
  repeat' ((first | with_reducible refine gOps_dec (fun _ => ?_) (fun _ => ?_) | with_reducible refine gOps_ndec (fun _ => ?_) (fun _ => ?_) | (with_reducible refine gOps_and (fun hq => ?_) (fun hq => ?_) <;> (try simp at hq)) | (with_reducible refine gOps_or (fun hq => ?_) (fun hq => ?_) <;> (try simp at hq)) | (with_reducible refine gOps_not (fun hq => ?_) (fun hq => ?_) <;> (try simp at hq)) | (with_reducible refine gOps_split (fun hq => ?_) (fun hq => ?_) <;> (try simp at hq)) | with_reducible refine condC_dec (fun _ => ?_) (fun _ => ?_) | with_reducible refine condC_ndec (fun _ => ?_) (fun _ => ?_) | (with_reducible refine condC_and (fun hq => ?_) (fun hq => ?_) <;> (try simp at hq)) | (with_reducible refine condC_or (fun hq => ?_) (fun hq => ?_) <;> (try simp at hq)) | (with_reducible refine condC_not (fun hq => ?_) (fun hq => ?_) <;> (try simp at hq)) | (with_reducible refine condC_split (fun hq => ?_) (fun hq => ?_) <;> (try simp at hq)) | refine appK2_if (by omega) ?_ | refine pureV_if (by omega) ?_) <;> simp -implicitDefEqProofs [*])
end Go.AM
/- Plain law: places put in their row, taken out. -/
namespace Go.AM
set_option linter.unusedSimpArgs false
set_option linter.unusedVariables false

theorem rising_ext : ∀ {xs ys : List Int}, xs.Pairwise (· < ·) → ys.Pairwise (· < ·) → (∀ a, a ∈ xs ↔ a ∈ ys) → xs = ys := by
  intro xs
  induction xs with
  | nil =>
    intro ys _ _ h
    cases ys with
    | nil => rfl
    | cons y ys => exact absurd ((h y).2 (by simp)) (by simp)
  | cons x xs ih =>
    intro ys hx hy h
    cases ys with
    | nil => exact absurd ((h x).1 (by simp)) (by simp)
    | cons y ys =>
      rw [List.pairwise_cons] at hx hy
      have hxy : x = y := by
        have h1 := (h x).1 (by simp)
        have h2 := (h y).2 (by simp)
        rcases List.mem_cons.1 h1 with h1 | h1
        · exact h1
        · rcases List.mem_cons.1 h2 with h2 | h2
          · exact h2.symm
          · have := hy.1 _ h1
            have := hx.1 _ h2
            omega
      subst hxy
      congr 1
      refine ih hx.2 hy.2 fun a => ?_
      have := h a
      simp only [List.mem_cons] at this
      constructor
      · intro ha
        rcases this.1 (.inr ha) with h' | h'
        · subst h'; exact absurd (hx.1 _ ha) (by omega)
        · exact h'
      · intro ha
        rcases this.2 (.inr ha) with h' | h'
        · subst h'; exact absurd (hy.1 _ ha) (by omega)
        · exact h'
theorem incr_iff : ∀ xs : List Int, incr xs = true ↔ xs.Pairwise (· < ·) := by
  intro xs
  induction xs with
  | nil => simp [incr]
  | cons x xs ih =>
    cases xs with
    | nil => simp [incr]
    | cons y ys =>
      simp only [incr, Bool.and_eq_true, decide_eq_true_eq, ih, List.pairwise_cons, List.mem_cons]
      constructor
      · rintro ⟨h1, h2, h3⟩
        refine ⟨?_, h2, h3⟩
        rintro a (rfl | ha)
        · exact h1
        · have := h2 a ha
          omega
      · rintro ⟨h1, h2, h3⟩
        exact ⟨h1 y (.inl rfl), h2, h3⟩
theorem passiveMay_iff (xs : List Int) : passiveMay xs = true ↔ xs.Pairwise (· < ·) ∧ (∀ x ∈ xs, place x = true) ∧ xs.length ≤ 16 := by
  rw [← passiveMay_eq]
  simp only [refPassiveMay, Bool.and_eq_true, incr_iff, decide_eq_true_eq, List.all_eq_true]
  constructor
  · rintro ⟨⟨h1, h2⟩, h3⟩; exact ⟨h1, h2, h3⟩
  · rintro ⟨h1, h2, h3⟩; exact ⟨⟨h1, h2⟩, h3⟩

def posI (xs : List Int) (id : Int) : Nat := (xs.takeWhile fun x => decide (x < id)).length
def insU (id : Int) : List Int → List Int
  | [] => [id]
  | x :: xs => if x < id then x :: insU id xs else id :: x :: xs
theorem insL_insU (id : Int) : ∀ xs : List Int, insL xs (posI xs id) id = insU id xs := by
  intro xs
  induction xs with
  | nil => rfl
  | cons x xs ih =>
    unfold insU
    by_cases h : x < id
    · rw [if_pos h, ← ih]
      simp [posI, insL, List.takeWhile_cons, h]
    · rw [if_neg h]
      simp [posI, insL, List.takeWhile_cons, h]
theorem mem_insU {id a : Int} : ∀ {xs : List Int}, a ∈ insU id xs ↔ a = id ∨ a ∈ xs := by
  intro xs
  induction xs with
  | nil => simp [insU]
  | cons x xs ih =>
    unfold insU
    split
    · simp only [List.mem_cons, ih]
      constructor
      · rintro (h | h | h)
        · exact .inr (.inl h)
        · exact .inl h
        · exact .inr (.inr h)
      · rintro (h | h | h)
        · exact .inr (.inl h)
        · exact .inl h
        · exact .inr (.inr h)
    · simp
theorem insU_length (id : Int) (xs : List Int) : (insU id xs).length = xs.length + 1 := by rw [← insL_insU, insL_length]
theorem rising_insU {id : Int} : ∀ {xs : List Int}, xs.Pairwise (· < ·) → id ∉ xs → (insU id xs).Pairwise (· < ·) := by
  intro xs
  induction xs with
  | nil => intro _ _; simp [insU]
  | cons x xs ih =>
    intro h hn
    rw [List.pairwise_cons] at h
    simp only [List.mem_cons, not_or] at hn
    unfold insU
    split
    · rename_i hlt
      rw [List.pairwise_cons]
      refine ⟨fun a ha => ?_, ih h.2 hn.2⟩
      rcases mem_insU.1 ha with rfl | ha
      · exact hlt
      · exact h.1 a ha
    · rename_i hge
      rw [List.pairwise_cons, List.pairwise_cons]
      refine ⟨?_, h⟩
      intro a ha
      rcases List.mem_cons.1 ha with rfl | ha
      · omega
      · have := h.1 a ha
        omega
def withoutP (xs : List Int) (id : Int) : List Int × Int := if passiveMay xs && place id then (xs.filter (fun y => !decide (y = id)), 0) else ([], 800)
theorem passiveMay_filter {xs : List Int} {p : Int → Bool} (h : passiveMay xs = true) : passiveMay (xs.filter p) = true := by
  obtain ⟨h1, h2, h3⟩ := (passiveMay_iff xs).1 h
  refine (passiveMay_iff _).2 ⟨h1.filter _, fun x hx => h2 x (List.mem_filter.1 hx).1, Nat.le_trans (List.length_filter_le _ _) h3⟩
theorem filter_out {xs : List Int} {id : Int} (h : id ∉ xs) : xs.filter (fun y => !decide (y = id)) = xs := by
  rw [List.filter_eq_self]
  intro a ha
  simp
  rintro rfl
  exact h ha
theorem filter_one {xs : List Int} {id : Int} (h : xs.Pairwise (· < ·)) (hm : id ∈ xs) : xs.length = (xs.filter (fun y => !decide (y = id))).length + 1 := by
  have : xs = insU id (xs.filter (fun y => !decide (y = id))) := by
    refine rising_ext h (rising_insU (h.filter _) (by simp)) fun a => ?_
    rw [mem_insU, List.mem_filter]
    simp
    constructor
    · intro ha
      by_cases h' : a = id
      · exact .inl h'
      · exact .inr ⟨ha, h'⟩
    · rintro (rfl | ⟨ha, _⟩)
      · exact hm
      · exact ha
  have h2 := congrArg List.length this
  rw [insU_length] at h2
  exact h2
theorem fIdx_spec0 (p : Int → Bool) : ∀ (xs : List Int) (i : Nat), (fIdx p i xs = -1 ∧ xs.filter (fun x => !p x) = xs) ∨ ∃ f, fIdx p i xs = ((i + f : Nat) : Int) ∧ f < xs.length ∧ (xs.take (f + 1)).filter (fun x => !p x) = xs.take f := by
  intro xs
  induction xs with
  | nil => intro i; exact .inl ⟨rfl, rfl⟩
  | cons x xs ih =>
    intro i
    simp only [fIdx]
    by_cases h : p x = true
    · right
      exact ⟨0, by simp [h], by simp, by simp [h]⟩
    · have h' : p x = false := by simpa using h
      rw [if_neg h]
      rcases ih (i + 1) with ⟨h1, h2⟩ | ⟨f, h1, h2, h3⟩
      · left
        refine ⟨h1, ?_⟩
        rw [List.filter_cons]
        simp [h', h2]
      · right
        refine ⟨f + 1, by rw [h1]; congr 1; omega, by simpa using h2, ?_⟩
        rw [List.take_succ_cons, List.filter_cons, h3]
        simp [h']
theorem fIdx_spec (p : Int → Bool) (xs : List Int) : (fIdx p 0 xs = -1 ∧ xs.filter (fun x => !p x) = xs) ∨ ∃ f : Nat, fIdx p 0 xs = (f : Int) ∧ f < xs.length ∧ (xs.take (f + 1)).filter (fun x => !p x) = xs.take f := by
  rcases fIdx_spec0 p xs 0 with h | ⟨f, h⟩
  · exact .inl h
  · exact .inr ⟨f, by simpa using h⟩
end Go.AM
/- AM: contracts: binary search, places put and taken out. -/
namespace Go.AM
set_option linter.unusedSimpArgs false
set_option linter.unusedVariables false
set_option maxRecDepth 8000
set_option maxHeartbeats 0
theorem deleteFunc_int (xs : List Int) (g : Nat) (caps : List D) (p : Int → Bool) (hp : TellsI g caps p xs) (hl : xs.length ≤ 1000000) :
    GivesC (DenF PP [0]) 225 (xs.map irow) 1 [.fn g [] caps] ((xs.filter fun x => !p x).map irow) := by
  refine gives_of (fun r hr => by obtain ⟨a, _, rfl⟩ := List.mem_map.1 hr; rfl) (StillR.map _ _ fun a _ d hd => by rw [List.mem_singleton.1 hd]; rfl) fun fl hfl hrow hfs htake hget => ?_
  have hi0 := slices_IndexFunc_int xs (by unfold cap; omega) g caps p hp
  have hi1 : Den PP 165 [.sl fl xs.length, .fn g [] caps] [] (.int .i64 (fIdx p 0 xs)) [] := den_cut (by
    simp only [List.map_cons, List.map_nil, D.cut]
    rw [List.length_map] at htake
    rw [htake]
    exact hi0)
  simp only [List.length_map] at *
  rcases fIdx_spec p xs with ⟨he, hf⟩ | ⟨f, he, hf, hff⟩
  · rw [he] at hi1
    refine ⟨.ref 0 0 xs.length, [⟨fl, 1, .mut⟩], ?_, ?_⟩
    · refine denF_of [] [] [] [] (by simp) (fun _ h => absurd h List.not_mem_nil) is_slices_DeleteFunc_int_int ?_
      simp -implicitDefEqProofs [-leave, c_slices_DeleteFunc_int_int, hp.2.1]
      refine callThen_of hi1 ?_
      simp -implicitDefEqProofs [-leave, hp.2.1]
      rw [leave_lent (by omega) (by simpa using hfs)]
      rfl
    · rw [hf]
      exact outRows_of rfl rfl rfl (by simpa using hfl) (by simpa using htake.symm) (.inl rfl)
  · rw [he] at hi1
    have hfl' : f < fl.length := by omega
    have hw := wrap_next (n := f) (by omega)
    have hne : ¬ (f : Int) = -1 := by omega
    have hm1 := List.length_filter_le (fun x => !p x) xs
    obtain ⟨m, hm⟩ : ∃ m, (xs.filter fun x => !p x).length = m := ⟨_, rfl⟩
    rw [hm] at hm1
    have hcells : ∀ k, k < xs.length → fl[k]? = (xs[k]?).map irow := by
      intro k hk
      rw [hget k hk, List.getElem?_map]
    refine ⟨.ref 0 0 m, [⟨(xs.filter fun x => !p x).map irow ++ List.replicate (xs.length - m) [.int .i64 0] ++ fl.drop xs.length, 1, .mut⟩], ?_, ?_⟩
    · refine denF_of [] [] [] [] (by simp) (fun _ h => absurd h List.not_mem_nil) is_slices_DeleteFunc_int_int ?_
      simp -implicitDefEqProofs [-leave, c_slices_DeleteFunc_int_int, hp.2.1]
      refine callThen_of hi1 ?_
      simp -implicitDefEqProofs [-leave, hp.2.1, hne, hw]
      refine loop_rule (xs.length - (f + 1)) (fun q ⟨fr, bs⟩ => ∃ (i j : Nat) (cur : List (List D)), bs = [⟨cur, 1, .mut⟩, ⟨[], 1, .mut⟩] ∧ xs.length - j ≤ q ∧ j ≤ xs.length ∧ i < j ∧ cur.length = fl.length ∧ StillR cur ∧
          (∀ r ∈ cur, r.length = 1) ∧ cur.take i = ((xs.take j).filter fun x => !p x).map irow ∧ cur.drop j = fl.drop j ∧ fr 0 = .ref 0 0 xs.length ∧ fr 1 = .fn g [] caps ∧ fr 5 = .int .i64 i ∧ fr 6 = .int .i64 j)
        (fun ⟨fr, bs⟩ => ∃ cur : List (List D), bs = [⟨cur, 1, .mut⟩, ⟨[], 1, .mut⟩] ∧ m < xs.length ∧ cur.length = fl.length ∧ StillR cur ∧ cur.take m = (xs.filter fun x => !p x).map irow ∧ cur.drop xs.length = fl.drop xs.length ∧ fr 0 = .ref 0 0 xs.length ∧ fr 5 = .int .i64 m)
        (fun _ => False) c_slices_DeleteFunc_int_int_L0.eq_1 ?_ ?_ ?_ ?_ ?_
      · refine ⟨f, f + 1, fl, rfl, by omega, by omega, by omega, rfl, hfs, hrow, ?_, rfl, rfl, rfl, rfl, rfl⟩
        rw [hff, List.map_take, ← htake, List.take_take]
        congr 1
        omega
      · rintro ⟨fr, bs⟩ ⟨i, j, cur, rfl, hq, hj, hij, hcl, hcs, hcr, hct, hcd, h0, h1, h5, h6⟩
        have hje : j = xs.length := by omega
        subst hje
        rw [List.take_length] at hct
        have him : i = m := by
          have := congrArg List.length hct
          simp at this
          omega
        subst him
        simp -implicitDefEqProofs [-leave, h0, h1, h5, h6]
        exact ⟨hij, hcl, hcs, hct, hcd⟩
      · rintro q ⟨fr, bs⟩ ⟨i, j, cur, rfl, hq, hj, hij, hcl, hcs, hcr, hct, hcd, h0, h1, h5, h6⟩
        by_cases hjx : j = xs.length
        · subst hjx
          rw [List.take_length] at hct
          have him : i = m := by
            have := congrArg List.length hct
            simp at this
            omega
          subst him
          simp -implicitDefEqProofs [-leave, h0, h1, h5, h6]
          exact ⟨hij, hcl, hcs, hct, hcd⟩
        · have hjl : j < xs.length := by omega
          have hjl' : (j : Int) < xs.length := by omega
          obtain ⟨x, hx⟩ : ∃ x, xs[j] = x := ⟨_, rfl⟩
          have hx' : xs[j]? = some x := by simp [hjl, hx]
          have hcj : cur[j]? = some [.int .i64 x] := by
            have h7 : (cur.drop j)[0]? = (fl.drop j)[0]? := by rw [hcd]
            rw [List.getElem?_drop, List.getElem?_drop, Nat.add_zero, hcells j hjl, hx'] at h7
            exact h7
          have hwj := wrap_next (n := j) (by omega)
          have hwi := wrap_next (n := i) (by omega)
          have hil' : (i : Int) < xs.length := by omega
          obtain ⟨r0, hr0⟩ : ∃ r0, cur[i]? = some r0 := ⟨cur[i]'(by omega), by simp⟩
          have hr0l : r0.length = 1 := hcr r0 (List.mem_of_getElem? hr0)
          obtain ⟨d0, rfl⟩ := List.length_eq_one_iff.1 hr0l
          have hsw := hcs.sweep
          have hicl : i < cur.length := by omega
          have htk : xs.take (j + 1) = xs.take j ++ [x] := by rw [List.take_add_one, hx']; rfl
          simp -implicitDefEqProofs [-leave, h0, h1, h5, h6, hjl', hcj, hp.1, hp.2.1]
          refine callThen_of (hp.2.2 x (List.mem_of_getElem? hx')) ?_
          simp -implicitDefEqProofs [-leave]
          refine condC_not (fun hpx => ?_) (fun hpx => ?_)
          all_goals simp -implicitDefEqProofs [-leave, h0, h1, h5, h6, hwi, hwj, hil', hr0, hp.1, hp.2.1, hsw]
          · refine ⟨i, j + 1, ?_⟩
            simp
            refine ⟨by omega, by omega, by omega, hcl, hcs, hcr, ?_, ?_⟩
            · rw [htk, List.filter_append, hct]
              simp [hpx]
            · rw [← List.drop_drop, ← List.drop_drop, hcd]
          · refine ⟨i + 1, j + 1, ?_⟩
            simp
            refine ⟨by omega, by omega, by omega, hcl, hcs.set (by simp [D.still]) i, ?_, ?_, ?_⟩
            · intro r hr
              rcases List.mem_or_eq_of_mem_set hr with h | h
              · exact hcr r h
              · rw [h]; rfl
            · rw [htk, List.filter_append, List.map_append, ← hct, List.take_add_one]
              simp [hpx, irow, List.take_set, hicl]
              rw [List.set_eq_of_length_le (by simp; omega)]
            · rw [List.drop_set_of_lt (by omega), ← List.drop_drop, ← List.drop_drop, hcd]
      · rintro ⟨fr, bs⟩ ⟨cur, rfl, hlt, hcl, hcs, hct, hcd, h0, h5⟩
        simp -implicitDefEqProofs [-leave, h0, h5]
        refine outK_slice (m) (xs.length) (by simp; rfl) rfl (by first | rfl | omega | (simp [boundD]; done) | (simp [boundD]; omega) | (simp; done) | (simp; omega)) (by first | rfl | omega | (simp [boundD]; done) | (simp [boundD]; omega) | (simp; done) | (simp; omega)) (by omega) (by first | rfl | omega | (simp [boundD]; done) | (simp [boundD]; omega) | (simp; done) | (simp; omega)) rfl (by first | rfl | omega | (simp [boundD]; done) | (simp [boundD]; omega) | (simp; done) | (simp; omega)) ?_
        simp -implicitDefEqProofs [-leave, h0, h5]
        try refine overK_if (by first | omega | (simp; done) | (simp; omega)) ?_
        try simp -implicitDefEqProofs [-leave, h0, h5]
        have hov := ovr_length (rows := cur) (p := m) (ys := List.replicate (xs.length - m) [D.int IntKind.i64 0]) (by simp; omega)
        refine outK_slice (0) (m) (by simp; rfl) rfl (by first | rfl | omega | (simp [boundD]; done) | (simp [boundD]; omega) | (simp; done) | (simp; omega)) (by first | rfl | omega | (simp [boundD]; done) | (simp [boundD]; omega) | (simp; done) | (simp; omega)) (by omega) (by first | rfl | omega | (simp [boundD]; done) | (simp [boundD]; omega) | (simp; done) | (simp; omega)) rfl (by first | rfl | omega | (simp [boundD]; done) | (simp [boundD]; omega) | (simp; done) | (simp; omega)) ?_
        simp -implicitDefEqProofs [-leave, h0, h5]
        rw [leave_lent (by omega) (by simpa using hcs.ovr (b := List.replicate (xs.length - m) [D.int IntKind.i64 0]) (fun r hr d hd => by rw [(List.mem_replicate.1 hr).2] at hd; rw [List.mem_singleton.1 hd]; rfl) m)]
        simp only [List.take_succ_cons, List.take_zero, ovr, List.length_replicate, hct, show m + (xs.length - m) = xs.length by omega, hcd, List.append_assoc]
      · rintro ⟨fr, bs⟩ h
        exact h.elim
    · refine outRows_of rfl rfl rfl ?_ ?_ (.inl rfl)
      · simp; omega
      · rw [List.drop_zero, List.append_assoc, List.take_left' (by simpa using hm)]
theorem passive_Without_1 (id a : Int) : Den PP 224 [.int .i64 a, .mem [.int .i64 id]] [] (.bool (decide (a = id))) [] := by
  refine den_of [] [] is_passive_Without_1 ?_
  simp -implicitDefEqProofs [c_passive_Without_1]
theorem passive_Without (xs : List Int) (id : Int) (hl : xs.length ≤ cap) : Den PP 191 [intsD xs, .int .i64 id] [] (.tup [.ref 0 0 (withoutP xs id).1.length, .int .i64 (withoutP xs id).2]) [⟨(withoutP xs id).1.map irow, 1, .mut⟩] := by
  have c1 := passive_May xs hl
  have c2 := fun h : xs.length ≤ 16 => clone_int (xs.map irow) (by simp) (by simp; omega)
  have c3 := fun h : xs.length ≤ 16 => deleteFunc_int xs 224 [.mem [.int .i64 id]] (fun a => decide (a = id)) ⟨fun _ => rfl, fun _ _ => rfl, fun a _ => passive_Without_1 id a⟩ (by omega)
  simp only [intsD, List.length_map] at c1 c2
  refine den_ofG [17] [17] [17] [] (fun _ h => absurd h List.not_mem_nil) is_passive_Without ?_
  simp -implicitDefEqProofs [c_passive_Without, intsD]
  refine callThen_of c1 ?_
  simp -implicitDefEqProofs
  refine gOps_split (fun h1 => ?_) (fun h1 => ?_)
  rotate_left
  · simp -implicitDefEqProofs [h1, withoutP]
  obtain ⟨hr, hp, h16⟩ := (passiveMay_iff xs).1 h1
  simp -implicitDefEqProofs [h1]
  refine callThen_of (ring_Place id) ?_
  simp -implicitDefEqProofs
  refine condC_not (fun h2 => ?_) (fun h2 => ?_)
  rotate_left
  · simp -implicitDefEqProofs [h1, h2, withoutP]
  simp -implicitDefEqProofs [h1, h2]
  refine callThen_of (c2 h16) ?_
  simp -implicitDefEqProofs
  refine giveThen_of rfl (by simp) (by simp) (by simp) (c3 h16) ?_
  simp -implicitDefEqProofs [downTo, h1, h2, withoutP]
end Go.AM
/- AM: code run by reckoning: a frame is a tree; a run that comes to an end tells the contract. -/
namespace Go.AM
set_option linter.unusedSimpArgs false
set_option linter.unusedVariables false

/-! ### data held against each other -/
mutual
def D.beq : D → D → Bool
  | .undef, .undef => true
  | .int k n, .int k' n' => decide (k = k') && decide (n = n')
  | .bool a, .bool b => a == b
  | .nil, .nil => true
  | .zs a, .zs b => a == b
  | .sl r n, .sl r' n' => Nat.beq n n' && beqLL r r'
  | .mem a, .mem b => beqL a b
  | .ref b o l, .ref b' o' l' => Nat.beq b b' && (Nat.beq o o' && Nat.beq l l')
  | .ptr b o l, .ptr b' o' l' => Nat.beq b b' && (Nat.beq o o' && Nat.beq l l')
  | .agg a, .agg b => beqL a b
  | .tup a, .tup b => beqL a b
  | .fn f a c, .fn f' a' c' => Nat.beq f f' && (beqL a a' && beqL c c')
  | _, _ => false
def beqL : List D → List D → Bool
  | [], [] => true
  | a :: us, b :: bs => D.beq a b && beqL us bs
  | _, _ => false
def beqLL : List (List D) → List (List D) → Bool
  | [], [] => true
  | a :: us, b :: bs => beqL a b && beqLL us bs
  | _, _ => false
end
mutual
theorem D.beq_sound : ∀ (a b : D), D.beq a b = true → a = b := by
  intro a b h
  cases a <;> cases b <;> simp only [D.beq, Bool.false_eq_true] at h <;> try rfl
  · simp only [Bool.and_eq_true, decide_eq_true_eq] at h; rw [h.1, h.2]
  · rw [eq_of_beq h]
  · rw [eq_of_beq h]
  · simp only [Bool.and_eq_true, Nat.beq_eq] at h; rw [h.1, beqLL_sound _ _ h.2]
  · rw [beqL_sound _ _ h]
  · simp only [Bool.and_eq_true, Nat.beq_eq] at h; rw [h.1, h.2.1, h.2.2]
  · simp only [Bool.and_eq_true, Nat.beq_eq] at h; rw [h.1, h.2.1, h.2.2]
  · rw [beqL_sound _ _ h]
  · rw [beqL_sound _ _ h]
  · simp only [Bool.and_eq_true, Nat.beq_eq] at h; rw [h.1, beqL_sound _ _ h.2.1, beqL_sound _ _ h.2.2]
theorem beqL_sound : ∀ (a b : List D), beqL a b = true → a = b := by
  intro a b h
  cases a <;> cases b <;> simp only [beqL, Bool.false_eq_true] at h
  · rfl
  · simp only [Bool.and_eq_true] at h; rw [D.beq_sound _ _ h.1, beqL_sound _ _ h.2]
theorem beqLL_sound : ∀ (a b : List (List D)), beqLL a b = true → a = b := by
  intro a b h
  cases a <;> cases b <;> simp only [beqLL, Bool.false_eq_true] at h
  · rfl
  · simp only [Bool.and_eq_true] at h; rw [beqL_sound _ _ h.1, beqLL_sound _ _ h.2]
end
def Blk.beq (a b : Blk) : Bool := beqLL a.rows b.rows && (Nat.beq a.esz b.esz && decide (a.kind = b.kind))
theorem Blk.beq_sound {a b : Blk} (h : a.beq b = true) : a = b := by
  obtain ⟨r, e, k⟩ := a
  obtain ⟨r', e', k'⟩ := b
  simp only [Blk.beq, Bool.and_eq_true, Nat.beq_eq, decide_eq_true_eq] at h
  rw [beqLL_sound _ _ h.1, h.2.1, h.2.2]
def beqB : List Blk → List Blk → Bool
  | [], [] => true
  | a :: us, b :: bs => a.beq b && beqB us bs
  | _, _ => false
theorem beqB_sound : ∀ (a b : List Blk), beqB a b = true → a = b
  | [], [], _ => rfl
  | a :: us, b :: bs, h => by
    simp only [beqB, Bool.and_eq_true] at h
    rw [Blk.beq_sound h.1, beqB_sound us bs h.2]
  | [], _ :: _, h => by simp [beqB] at h
  | _ :: _, [], h => by simp [beqB] at h

/-! ### frames -/
inductive Tr where
  | leaf
  | node (v : D) (l r : Tr)
  deriving Inhabited
def Tr.get : Tr → Nat → D
  | .leaf, _ => .undef
  | .node v l r, t => cond (Nat.beq t 0) v (cond (Nat.beq (Nat.mod t 2) 1) (l.get (Nat.div t 2)) (r.get (Nat.sub (Nat.div t 2) 1)))
def Tr.set : Tr → Nat → D → Option Tr
  | .leaf, _, _ => none
  | .node v l r, t, d => cond (Nat.beq t 0) (some (.node d l r)) (cond (Nat.beq (Nat.mod t 2) 1)
      (match l.set (Nat.div t 2) d with | some l' => some (.node v l' r) | none => none)
      (match r.set (Nat.sub (Nat.div t 2) 1) d with | some r' => some (.node v l r') | none => none))
def Tr.map (f : D → D) : Tr → Tr
  | .leaf => .leaf
  | .node v l r => .node (f v) (l.map f) (r.map f)
def Tr.mk : Nat → Tr
  | 0 => .leaf
  | n + 1 => .node .undef (Tr.mk n) (Tr.mk n)
def Tr.beq : Tr → Tr → Bool
  | .leaf, .leaf => true
  | .node v l r, .node v' l' r' => v.beq v' && (l.beq l' && r.beq r')
  | _, _ => false
theorem Tr.beq_sound : ∀ (a b : Tr), a.beq b = true → a = b
  | .leaf, .leaf, _ => rfl
  | .node v l r, .node v' l' r', h => by
    simp only [Tr.beq, Bool.and_eq_true] at h
    rw [D.beq_sound _ _ h.1, Tr.beq_sound l l' h.2.1, Tr.beq_sound r r' h.2.2]
  | .leaf, .node _ _ _, h => by simp [Tr.beq] at h
  | .node _ _ _, .leaf, h => by simp [Tr.beq] at h
theorem nbeq_no {a b : Nat} (h : ¬ a = b) : Nat.beq a b = false := by
  cases hb : Nat.beq a b with
  | false => rfl
  | true => exact absurd (Nat.eq_of_beq_eq_true hb) h
theorem nbeq_yes {a b : Nat} (h : a = b) : Nat.beq a b = true := by subst h; exact Nat.beq_refl a
theorem Tr.get_set : ∀ (tr : Tr) (t : Nat) (d : D) (tr' : Tr), tr.set t d = some tr' → tr'.get = upd tr.get t d := by
  intro tr
  induction tr with
  | leaf => intro t d tr' h; cases h
  | node v l r ihl ihr =>
    intro t d tr' h
    funext s
    unfold Tr.set at h
    by_cases h0 : t = 0
    · subst h0
      rw [nbeq_yes rfl, cond_true] at h
      cases h
      unfold upd
      by_cases hs : s = 0
      · subst hs; simp [Tr.get]
      · have hs' : Nat.beq s 0 = false := nbeq_no hs
        simp [Tr.get, hs, hs']
    · have h0' : Nat.beq t 0 = false := nbeq_no h0
      rw [h0', cond_false] at h
      by_cases h1 : t % 2 = 1
      · have h1' : Nat.beq (Nat.mod t 2) 1 = true := nbeq_yes h1
        rw [h1', cond_true] at h
        split at h
        · rename_i l' hl
          cases h
          have := ihl _ _ _ hl
          unfold upd at this ⊢
          by_cases hs : s = 0
          · subst hs; simp [Tr.get, Ne.symm h0]
          · have hs' : Nat.beq s 0 = false := nbeq_no hs
            by_cases hs2 : s % 2 = 1
            · have hs2' : Nat.beq (Nat.mod s 2) 1 = true := nbeq_yes hs2
              have e : (Nat.div s 2 = Nat.div t 2) = (s = t) := by
                apply propext
                show (s / 2 = t / 2) ↔ _
                omega
              simp only [Tr.get, hs', hs2', cond_true, cond_false, this, e]
            · have hs2' : Nat.beq (Nat.mod s 2) 1 = false := nbeq_no hs2
              have : s ≠ t := by intro e; subst e; exact hs2 h1
              simp only [Tr.get, hs', hs2', cond_false, this, if_false]
        · cases h
      · have h1' : Nat.beq (Nat.mod t 2) 1 = false := nbeq_no h1
        rw [h1', cond_false] at h
        split at h
        · rename_i r' hr
          cases h
          have := ihr _ _ _ hr
          unfold upd at this ⊢
          by_cases hs : s = 0
          · subst hs; simp [Tr.get, Ne.symm h0]
          · have hs' : Nat.beq s 0 = false := nbeq_no hs
            by_cases hs2 : s % 2 = 1
            · have hs2' : Nat.beq (Nat.mod s 2) 1 = true := nbeq_yes hs2
              have : s ≠ t := by intro e; subst e; exact h1 hs2
              simp only [Tr.get, hs', hs2', cond_true, cond_false, this, if_false]
            · have hs2' : Nat.beq (Nat.mod s 2) 1 = false := nbeq_no hs2
              have e : (Nat.sub (Nat.div s 2) 1 = Nat.sub (Nat.div t 2) 1) = (s = t) := by
                apply propext
                show (s / 2 - 1 = t / 2 - 1) ↔ _
                omega
              simp only [Tr.get, hs', hs2', cond_false, this, e]
        · cases h
theorem Tr.get_map {f : D → D} (hf : f .undef = .undef) : ∀ (tr : Tr) (t : Nat), (tr.map f).get t = f (tr.get t) := by
  intro tr
  induction tr with
  | leaf => intro t; exact hf.symm
  | node v l r ihl ihr =>
    intro t
    simp only [Tr.map, Tr.get, ihl, ihr]
    cases Nat.beq t 0 <;> cases Nat.beq (Nat.mod t 2) 1 <;> rfl
theorem Tr.get_mk : ∀ (n t : Nat), (Tr.mk n).get t = .undef := by
  intro n
  induction n with
  | zero => intro t; rfl
  | succ n ih =>
    intro t
    simp only [Tr.mk, Tr.get, ih]
    cases Nat.beq t 0 <;> cases Nat.beq (Nat.mod t 2) 1 <;> rfl

structure E where
  tr : Tr
  bs : List Blk
def E.st (e : E) : St := ⟨e.tr.get, e.bs⟩
def E.ev (e : E) : Operand → D
  | .tmp t => e.tr.get t
  | .const v => constD v
  | .func f => .fn f [] []
  | .global _ => .undef
theorem E.ev_st (e : E) : e.st.ev = e.ev := by funext x; cases x <;> rfl
def forceN {α : Type} (n : Nat) (k : Nat → α) : α := match n with
  | 0 => k 0
  | n + 1 => k (n + 1)
theorem forceN_eq {α : Type} (n : Nat) (k : Nat → α) : forceN n k = k n := by cases n <;> rfl
def forceD {α : Type} (d : D) (k : D → α) : α := match d with
  | .int i n => match n with
    | .ofNat m => forceN m fun m => k (.int i (.ofNat m))
    | .negSucc m => forceN m fun m => k (.int i (.negSucc m))
  | .bool b => match b with
    | true => k (.bool true)
    | false => k (.bool false)
  | .undef => k .undef
  | .nil => k .nil
  | .zs b => k (.zs b)
  | .sl r n => forceN n fun n => k (.sl r n)
  | .mem a => k (.mem a)
  | .ref b o l => forceN b fun b => forceN o fun o => forceN l fun l => k (.ref b o l)
  | .ptr b i j => forceN b fun b => forceN i fun i => forceN j fun j => k (.ptr b i j)
  | .agg a => k (.agg a)
  | .tup a => k (.tup a)
  | .fn f a c => k (.fn f a c)
theorem forceD_eq {α : Type} (d : D) (k : D → α) : forceD d k = k d := by
  cases d <;> simp only [forceD, forceN_eq]
  · rename_i n; cases n <;> rfl
  · rename_i b; cases b <;> rfl
def E.put (e : E) (dst : Option Nat) (d : D) : Option E := match dst with
  | none => some e
  | some t => forceD d fun d => match e.tr.set t d with
    | some tr => some ⟨tr, e.bs⟩
    | none => none
theorem E.put_st {e e' : E} {dst : Option Nat} {d : D} (h : e.put dst d = some e') : e'.st = e.st.put dst d := by
  cases dst with
  | none => cases h; rfl
  | some t =>
    simp only [E.put, forceD_eq] at h
    split at h
    · rename_i tr ht
      cases h
      simp only [E.st, St.put, Tr.get_set _ _ _ _ ht]
    · cases h
def E.out (e : E) (dst : Option Nat) (o : Out) : Option E := match e.put dst o.d with
  | some e' => some ⟨e'.tr, downTo o.down e.bs ++ o.news⟩
  | none => none
theorem E.out_st {e e' : E} {dst : Option Nat} {o : Out} (h : e.out dst o = some e') : e'.st = e.st.out dst o := by
  unfold E.out at h
  split at h
  · rename_i e1 h1
    cases h
    have := E.put_st h1
    simp only [St.out, ← this]
    rfl
  · cases h
theorem sweep_undef (S : Nat → Bool) : D.sweep S .undef = .undef := rfl

def fitsB (sz : Nat) (ys : List (List D)) : Bool := ys.all fun r => Nat.beq r.length sz && r.all D.isCell
theorem fitsB_sound {sz : Nat} {ys : List (List D)} (h : fitsB sz ys = true) : Fits sz ys := by
  unfold fitsB at h
  rw [List.all_eq_true] at h
  intro r hr
  have := h r hr
  simp only [Bool.and_eq_true, Nat.beq_eq] at this
  exact this

abbrev XC := Nat → List D → List Blk → Option (D × List Blk)
abbrev XG := Nat → List (List D) → Nat → List D → Option (List (List D))

def eAppend (c : Cfg) (e : E) (el : Nat) (base : D) (ys : List (List D)) : Option (D × E) :=
    match base with
    | .nil => if ys.length * (c.T el).bytes ≤ 140737488355328 ∧ ys.length ≤ 9223372036854775807 then
        some (.ref e.bs.length 0 ys.length, ⟨e.tr, e.bs ++ [⟨ys, (c.T el).size, .mut⟩]⟩) else none
    | .ref b off len => match e.bs[b]? with
      | some k =>
        if k.esz = (c.T el).size ∧ k.kind.isBox = false ∧ (len + ys.length) * (c.T el).bytes ≤ 140737488355328 ∧ len + ys.length ≤ 9223372036854775807 then
          (if off + len = k.rows.length ∧ c.n0 ≤ b then
            some (.ref b 0 (len + ys.length), ⟨e.tr.map (D.sweep (· == b)), setBlk (e.bs.map (Blk.sweep (· == b))) b (k.rows.drop off ++ ys)⟩)
          else if off + len + ys.length ≤ k.rows.length ∧ k.kind = .mut then
            some (.ref b off (len + ys.length), ⟨e.tr, setBlk e.bs b (k.rows.take (off + len) ++ ys ++ k.rows.drop (off + len + ys.length))⟩)
          else if k.rows.length < off + len + ys.length ∧ off + len ≤ k.rows.length ∧ c.full.contains b = true ∧ 0 < k.esz then
            some (.ref e.bs.length 0 (len + ys.length), ⟨e.tr, e.bs ++ [⟨(k.rows.drop off).take len ++ ys, (c.T el).size, .mut⟩]⟩)
          else none)
        else none
      | none => none
    | _ => none
theorem eAppend_st {c : Cfg} {e : E} {el : Nat} {base : D} {ys : List (List D)} {r : D} {e' : E} (h : eAppend c e el base ys = some (r, e')) : appendD c e.st el base ys = some (r, e'.st) := by
  have hm : ∀ b, (fun t => (e.tr.map (D.sweep (· == b))).get t) = sweepF (· == b) e.tr.get := fun b => by
    funext t
    rw [Tr.get_map (sweep_undef _)]
    rfl
  unfold eAppend at h
  unfold appendD
  cases base <;> simp only at h ⊢ <;> try cases h
  · split at h
    · rename_i h1; cases h; rw [if_pos h1]; rfl
    · cases h
  · simp only [E.st]
    split at h
    · rename_i k hk
      rw [hk]
      simp only
      split at h
      · rename_i h1
        rw [if_pos h1]
        split at h
        · rename_i h2
          rw [if_pos h2]
          cases h
          simp only [E.st, ← hm]
        · rename_i h2
          rw [if_neg h2]
          split at h
          · rename_i h3; rw [if_pos h3]; cases h; rfl
          · rename_i h3
            rw [if_neg h3]
            split at h
            · rename_i h4; rw [if_pos h4]; cases h; rfl
            · cases h
      · cases h
    · cases h

def eCall (c : Cfg) (X : XC) (dst : Option Nat) (f : D) (args : List D) (e : E) : Option E :=
  match f with
  | .fn f first caps => match X f ((first ++ args ++ caps).map (D.freeze e.bs)) [] with
    | some (r, nbs) =>
      cond ((nbs.all fun b => !b.kind.isBox) && ((importD (ownT c dst) e.bs.length r nbs (reach e.bs (idsL (first ++ args ++ caps)))).down.all fun b => decide (b < e.bs.length)))
        (e.out dst (importD (ownT c dst) e.bs.length r nbs (reach e.bs (idsL (first ++ args ++ caps))))) none
    | none => none
  | _ => none
def eLend (X : XC) (dst : Option Nat) (f : D) (args : List D) (e : E) : Option E :=
  match f with
  | .fn f first caps => match X f (first ++ args ++ caps) e.bs with
    | some (r, bs') => E.put ⟨e.tr, bs'⟩ dst r
    | none => none
  | _ => none
def eGive (c : Cfg) (G : XG) (dst : Option Nat) (f : D) (args : List D) (e : E) : Option E :=
  match f, args with
  | .fn f [] [], .ref b 0 len :: rest => match e.bs[b]? with
    | some k => if c.n0 ≤ b ∧ k.kind = .mut ∧ k.rows.length = len ∧ (reach e.bs (idsL rest)).contains b = false then
        (match G f k.rows k.esz (rest.map (D.freeze e.bs)) with
        | some R => E.put ⟨e.tr.map (D.sweep (· == b)), setBlk ((downTo (reach e.bs (idsL rest)) e.bs).map (Blk.sweep (· == b))) b R⟩ dst (.ref b 0 R.length)
        | none => none) else none
    | none => none
  | _, _ => none
def eBar (c : Cfg) (X : XC) (G : XG) (dst : Option Nat) (f : Operand) (args : Array Operand) (e : E) : Option E :=
  cond (isOvl c f) (cond (apartD e.bs (args.toList.map e.ev)) (e.put dst (.bool false)) none)
    (cond (isGive c args) (eGive c G dst (e.ev f) (args.toList.map e.ev) e) (eLend X dst (e.ev f) (args.toList.map e.ev) e))
def eOver (e : E) (dst : Option Nat) (d : D) (x : Option St) : Option E := match x with
  | some st => E.put ⟨e.tr, st.bs⟩ dst d
  | none => none

def eOther (c : Cfg) (X : XC) (G : XG) (o : SO) (e : E) : Option E :=
  match o.op with
  | .call ⟨.value f, args, _⟩ => cond (isLend c f args) (eBar c X G o.dst f args e) (eCall c X o.dst (e.ev f) (args.toList.map e.ev) e)
  | .call ⟨.builtin .append, args, tys⟩ => match tys.toList, args.toList with
    | [t0, t1], [s, x] => match (c.T t0).d with
      | .slice el => match moreRows c.T e.bs el (c.T t1).d (e.ev x) with
        | some ys => cond (fitsB (c.T el).size ys) (match eAppend c e el (e.ev s) ys with
          | some (r, e') => e'.put o.dst r
          | none => none) none
        | none => none
      | _ => none
    | _, _ => none
  | .call ⟨.builtin .copy, args, tys⟩ => match tys.toList, args.toList with
    | [t0, _], [s, x] => match (c.T t0).d, e.ev s with
      | .slice el, .ref b off len => match srcRows e.bs (e.ev x) with
        | some ys => cond (ys.all fun r => Nat.beq r.length (c.T el).size) (cond (fitsB (c.T el).size (ys.take len))
            (eOver e o.dst (.int .i64 ((ys.take len).length : Int)) (overD e.st (.ref b off len) (c.T el).size (ys.take len))) none) none
        | none => none
      | _, _ => none
    | _, _ => none
  | .call ⟨.builtin .clear, args, tys⟩ => match tys.toList, args.toList with
    | [t0], [s] => match (c.T t0).d, e.ev s with
      | .slice el, .ref b off len => cond (fitsB (c.T el).size (replicateRows len (c.T el).zero))
          (eOver e o.dst (.tup []) (overD e.st (.ref b off len) (c.T el).size (replicateRows len (c.T el).zero))) none
      | _, _ => none
    | _, _ => none
  | .call _ => none
  | .store t a x => match storeD c.T e.st t (e.ev a) (e.ev x) with
    | some st => E.put ⟨e.tr, st.bs⟩ o.dst (.tup [])
    | none => none
  | op => match opFn c.T c.eqs e.bs.length e.bs e.ev o.ty op with
    | some out => cond (out.down.all fun b => decide (b < e.bs.length)) (e.out o.dst out) none
    | none => none
def eOp (c : Cfg) (X : XC) (G : XG) (o : SO) (e : E) : Option E :=
  match pureD c e.bs e.ev o.op with
  | some x => e.put o.dst x
  | none => eOther c X G o e

theorem overD_fr {st st' : St} {d : D} {sz : Nat} {ys : List (List D)} (h : overD st d sz ys = some st') : st'.fr = st.fr := by
  unfold overD at h
  split at h
  · split at h
    · split at h
      · cases h; rfl
      · cases h
    · cases h
  · cases h
theorem storeD_fr {T : Tab} {st st' : St} {t : Nat} {a x : D} (h : storeD T st t a x = some st') : st'.fr = st.fr := by
  unfold storeD at h
  split at h
  · split at h
    · split at h
      · split at h
        · split at h
          · cases h; rfl
          · split at h
            · cases h
            · cases h; rfl
          · cases h
        · cases h
      · cases h
    · cases h
  · cases h
theorem eOver_st {e e' : E} {dst : Option Nat} {d : D} {x : Option St} (hx : ∀ st, x = some st → st.fr = e.st.fr) (h : eOver e dst d x = some e') {K : St → Prop} (hK : K e'.st) : overK dst d x K := by
  unfold eOver at h
  split at h
  · rename_i st
    have h1 := E.put_st h
    have h2 := hx st rfl
    show K (st.put dst d)
    have : E.st ⟨e.tr, st.bs⟩ = st := by
      obtain ⟨fr, bs⟩ := st
      simp only [E.st] at h2 ⊢
      rw [h2]
    rw [← this, ← h1]
    exact hK
  · cases h

theorem eOther_sound {c : Cfg} {X : XC} {G : XG} (hX : ∀ f args bs r bs', X f args bs = some (r, bs') → c.C f args bs r bs') (hG : ∀ f rows esz rest R, G f rows esz rest = some R → GivesC c.G f rows esz rest R)
    {o : SO} {e e' : E} (h : eOther c X G o e = some e') {K : St → Prop} (hK : K e'.st) : vOther c o.oper e.st K := by
  have hs : e.st.bs = e.bs := rfl
  unfold eOther at h
  unfold vOther
  obtain ⟨dst, op, ty, g⟩ := o
  simp only [SO.oper] at h ⊢
  rw [E.ev_st]
  split at h
  · rename_i f args tys
    simp only
    cases hl : isLend c f args with
    | false =>
      rw [hl, cond_false] at h
      rw [if_neg (by simp)]
      unfold eCall at h
      unfold callV
      split at h
      · rename_i fid first caps hf
        rw [hf]
        simp only
        split at h
        · rename_i r nbs hr
          simp only [Bool.cond_eq_ite] at h
          split at h
          · rename_i hc
            simp only [Bool.and_eq_true] at hc
            exact ⟨r, nbs, hX _ _ _ _ _ hr, hc.1, hc.2, by rw [hs, ← E.out_st h]; exact hK⟩
          · cases h
        · cases h
      · cases h
    | true =>
      rw [hl, cond_true] at h
      rw [if_pos rfl]
      unfold eBar at h
      unfold barV
      rw [E.ev_st]
      cases ho : isOvl c f with
      | true =>
        rw [ho, cond_true] at h
        rw [if_pos rfl]
        simp only [Bool.cond_eq_ite] at h
        split at h
        · rename_i ha; exact ⟨ha, by rw [← E.put_st h]; exact hK⟩
        · cases h
      | false =>
        rw [ho, cond_false] at h
        rw [if_neg (by simp)]
        cases hg : isGive c args with
        | true =>
          rw [hg, cond_true] at h
          rw [if_pos rfl]
          unfold eGive at h
          unfold giveCall
          split at h
          · rename_i fid b len rest hf ha
            rw [hf, ha]
            simp only
            split at h
            · rename_i k hk
              split at h
              · rename_i hc
                split at h
                · rename_i R hR
                  refine ⟨k, R, hk, hc.1, hc.2.1, hc.2.2.1, hc.2.2.2, hG _ _ _ _ _ hR, ?_⟩
                  have h1 := E.put_st h
                  have h2 : E.st ⟨e.tr.map (D.sweep (· == b)), setBlk ((downTo (reach e.bs (idsL rest)) e.bs).map (Blk.sweep (· == b))) b R⟩ =
                      ⟨sweepF (· == b) e.st.fr, setBlk ((downTo (reach e.st.bs (idsL rest)) e.st.bs).map (Blk.sweep (· == b))) b R⟩ := by
                    simp only [E.st]
                    congr 1
                    funext t
                    rw [Tr.get_map (sweep_undef _)]
                    rfl
                  rw [← h2, ← h1]
                  exact hK
                · cases h
              · cases h
            · cases h
          · cases h
        | false =>
          rw [hg, cond_false] at h
          rw [if_neg (by simp)]
          unfold eLend at h
          unfold lendCall
          split at h
          · rename_i fid first caps hf
            rw [hf]
            simp only
            split at h
            · rename_i r bs' hr
              refine ⟨r, bs', hX _ _ _ _ _ hr, ?_⟩
              have h1 := E.put_st h
              show K (St.put (E.st ⟨e.tr, bs'⟩) dst r)
              rw [← h1]
              exact hK
            · cases h
          · cases h
  · rename_i args tys
    simp only
    split at h
    · rename_i t0 t1 s x h1 h2
      rw [h1, h2]
      simp only [appT]
      split at h
      · rename_i el h3
        rw [h3]
        simp only [appK, hs]
        split at h
        · rename_i ys hys
          rw [hys]
          simp only [Bool.cond_eq_ite] at h
          split at h
          · rename_i hf
            split at h
            · rename_i r e1 hr
              refine ⟨fitsB_sound hf, ?_⟩
              rw [eAppend_st hr]
              show K (e1.st.put dst r)
              rw [← E.put_st h]
              exact hK
            · cases h
          · cases h
        · cases h
      · cases h
    · cases h
  · rename_i args tys
    simp only
    split at h
    · rename_i t0 t1 s x h1 h2
      rw [h1, h2]
      simp only [copyT]
      split at h
      · rename_i el b off len h3 h4
        rw [h3, h4]
        simp only [copyK, hs]
        split at h
        · rename_i ys hys
          rw [hys]
          simp only [Bool.cond_eq_ite] at h
          split at h
          · rename_i hf
            split at h
            · rename_i hf2
              refine ⟨fun r hr => ?_, fitsB_sound hf2, eOver_st (fun st hst => overD_fr hst) h hK⟩
              rw [List.all_eq_true] at hf
              exact Nat.eq_of_beq_eq_true (hf r hr)
            · cases h
          · cases h
        · cases h
      · cases h
    · cases h
  · rename_i args tys
    simp only
    split at h
    · rename_i t0 s h1 h2
      rw [h1, h2]
      simp only [clearT]
      split at h
      · rename_i el b off len h3 h4
        rw [h3, h4]
        simp only [Bool.cond_eq_ite] at h ⊢
        split at h
        · rename_i hf
          exact ⟨fitsB_sound hf, eOver_st (fun st hst => overD_fr hst) h hK⟩
        · cases h
      · cases h
    · cases h
  · cases h
  · rename_i t a x
    split at h
    · rename_i st hst
      have h2 := storeD_fr hst
      simp only [hst]
      show K (st.put dst (.tup []))
      have : E.st ⟨e.tr, st.bs⟩ = st := by
        obtain ⟨fr, bs⟩ := st
        simp only [E.st] at h2 ⊢
        rw [h2]
      rw [← this, ← E.put_st h]
      exact hK
    · cases h
  · rename_i g1 g2 g3 g4 g5 g6
    split at h
    · rename_i out hout
      simp only [Bool.cond_eq_ite] at h
      split at h
      · rename_i hd
        have : outK e.st dst (opFn c.T c.eqs e.st.bs.length e.st.bs e.ev ty op) K := by
          rw [hs, hout]
          exact ⟨hd, by rw [← E.out_st h]; exact hK⟩
        cases op <;> first | exact this | exact absurd rfl (g5 _) | exact absurd rfl (g6 _ _ _)
      · cases h
    · cases h

theorem eOp_sound {c : Cfg} {X : XC} {G : XG} (hX : ∀ f args bs r bs', X f args bs = some (r, bs') → c.C f args bs r bs') (hG : ∀ f rows esz rest R, G f rows esz rest = some R → GivesC c.G f rows esz rest R)
    {o : SO} {e e' : E} (h : eOp c X G o e = some e') {K : St → Prop} (hK : K e'.st) : vOp c o.oper e.st K := by
  unfold eOp at h
  unfold vOp
  rw [E.ev_st]
  split at h
  · rename_i x hx
    have e1 : pureD c e.st.bs e.ev o.oper.op = some x := hx
    rw [e1]
    show K (e.st.put o.dst x)
    rw [← E.put_st h]
    exact hK
  · rename_i hx
    have e1 : pureD c e.st.bs e.ev o.oper.op = none := hx
    rw [e1]
    exact eOther_sound hX hG h hK

def eOps (c : Cfg) (X : XC) (G : XG) : List SO → E → Option E
  | [], e => some e
  | o :: rest, e => match o.g with
    | none => match eOp c X G o e with
      | some e' => eOps c X G rest e'
      | none => none
    | some (t, want) => match e.tr.get t with
      | .bool b => cond (b == want) (match eOp c X G o e with
        | some e' => eOps c X G rest e'
        | none => none) (match e.put o.dst (.tup []) with
        | some e' => eOps c X G rest e'
        | none => none)
      | .tup [] => match e.put o.dst (.tup []) with
        | some e' => eOps c X G rest e'
        | none => none
      | _ => none

theorem eOps_sound {c : Cfg} {X : XC} {G : XG} (hX : ∀ f args bs r bs', X f args bs = some (r, bs') → c.C f args bs r bs') (hG : ∀ f rows esz rest R, G f rows esz rest = some R → GivesC c.G f rows esz rest R) :
    ∀ (l : List SO) (e e' : E), eOps c X G l e = some e' → ∀ K : St → Prop, K e'.st → sOps c l e.st K := by
  intro l
  induction l with
  | nil => intro e e' h K hK; cases h; exact hK
  | cons o rest ih =>
    intro e e' h K hK
    unfold eOps at h
    unfold sOps
    split at h
    · rename_i hg
      rw [hg]
      simp only
      split at h
      · rename_i e1 h1
        exact eOp_sound hX hG h1 (ih _ _ h K hK)
      · cases h
    · rename_i t want hg
      rw [hg]
      simp only
      split at h
      · rename_i b hb
        show match e.tr.get t with | .bool b => _ | .tup [] => _ | _ => False
        rw [hb]
        simp only
        simp only [Bool.cond_eq_ite] at h
        split at h
        · rename_i hw
          rw [if_pos (eq_of_beq hw)]
          split at h
          · rename_i e1 h1
            exact eOp_sound hX hG h1 (ih _ _ h K hK)
          · cases h
        · rename_i hw
          rw [if_neg (fun he => hw (by rw [he]; simp))]
          split at h
          · rename_i e1 h1
            rw [← E.put_st h1]
            exact ih _ _ h K hK
          · cases h
      · rename_i hb
        show match e.tr.get t with | .bool b => _ | .tup [] => _ | _ => False
        rw [hb]
        simp only
        split at h
        · rename_i e1 h1
          rw [← E.put_st h1]
          exact ih _ _ h K hK
        · cases h
      · cases h

def E.beq (a b : E) : Bool := a.tr.beq b.tr && beqB a.bs b.bs
theorem E.beq_sound {a b : E} (h : a.beq b = true) : a = b := by
  obtain ⟨x, y⟩ := a
  obtain ⟨x', y'⟩ := b
  simp only [E.beq, Bool.and_eq_true] at h
  rw [Tr.beq_sound _ _ h.1, beqB_sound _ _ h.2]
def eAlts (c : Cfg) (X : XC) (G : XG) : List (List SO) → E → Option E
  | [], _ => none
  | l :: ls, e => match eOps c X G l e with
    | some e' => cond (ls.all fun l => match eOps c X G l e with
      | some e2 => e2.beq e'
      | none => false) (some e') none
    | none => none
theorem sAlts_all {c : Cfg} {st : St} {K : St → Prop} : ∀ (ls : List (List SO)), (∀ l ∈ ls, sOps c l st K) → sAlts c ls st K
  | [], _ => trivial
  | l :: ls, h => ⟨h l (by simp), sAlts_all ls fun x hx => h x (by simp [hx])⟩
theorem eAlts_sound {c : Cfg} {X : XC} {G : XG} (hX : ∀ f args bs r bs', X f args bs = some (r, bs') → c.C f args bs r bs') (hG : ∀ f rows esz rest R, G f rows esz rest = some R → GivesC c.G f rows esz rest R)
    {ls : List (List SO)} {e e' : E} (h : eAlts c X G ls e = some e') {K : St → Prop} (hK : K e'.st) : sAlts c ls e.st K := by
  cases ls with
  | nil => cases h
  | cons l ls =>
    simp only [eAlts] at h
    split at h
    · rename_i e1 h1
      simp only [Bool.cond_eq_ite] at h
      split at h
      · rename_i ha
        cases h
        rw [List.all_eq_true] at ha
        refine ⟨eOps_sound hX hG _ _ _ h1 K hK, sAlts_all ls fun x hx => ?_⟩
        have := ha x hx
        split at this
        · rename_i e2 h2
          have := E.beq_sound this
          subst this
          exact eOps_sound hX hG _ _ _ h2 K hK
        · cases this
      · cases h
    · cases h

def eLoop (b : E → Option (Ex × E)) : Nat → E → Option (Ex × E)
  | 0, _ => none
  | n + 1, e => match b e with
    | some (.normal, e') => eLoop b n e'
    | r => r
def eCode (c : Cfg) (X : XC) (G : XG) (lf : Nat) : SC → E → Option (Ex × E)
  | .skip, e => some (.normal, e)
  | .ops l, e => match eOps c X G l e with
    | some e' => some (.normal, e')
    | none => none
  | .alts ls, e => match eAlts c X G ls e with
    | some e' => some (.normal, e')
    | none => none
  | .seq a b, e => match eCode c X G lf a e with
    | some (.normal, e') => eCode c X G lf b e'
    | r => r
  | .cond t a b, e => match e.ev t with
    | .bool v => cond v (eCode c X G lf a e) (eCode c X G lf b e)
    | _ => none
  | .block id a, e => match eCode c X G lf a e with
    | some (.exit i, e') => cond (Nat.beq i id) (some (.normal, e')) (some (.exit i, e'))
    | r => r
  | .loop a, e => eLoop (fun e => eCode c X G lf a e) lf e
  | .exit id, e => some (.exit id, e)
  | .ret, e => some (.ret, e)

theorem eCode_sound {c : Cfg} {X : XC} {G : XG} (hX : ∀ f args bs r bs', X f args bs = some (r, bs') → c.C f args bs r bs') (hG : ∀ f rows esz rest R, G f rows esz rest = some R → GivesC c.G f rows esz rest R) (lf : Nat) :
    ∀ (s : SC) (e e' : E) (ex : Ex), eCode c X G lf s e = some (ex, e') → ∀ Q : Ex → St → Prop, Q ex e'.st → sCode c s e.st Q := by
  intro s
  induction s with
  | skip => intro e e' ex h Q hQ; cases h; exact hQ
  | ops l =>
    intro e e' ex h Q hQ
    unfold eCode at h
    split at h
    · rename_i e1 h1; cases h; exact eOps_sound hX hG _ _ _ h1 _ hQ
    · cases h
  | alts ls =>
    intro e e' ex h Q hQ
    unfold eCode at h
    split at h
    · rename_i e1 h1; cases h; exact eAlts_sound hX hG h1 hQ
    · cases h
  | seq a b iha ihb =>
    intro e e' ex h Q hQ
    unfold eCode at h
    unfold sCode
    split at h
    · rename_i e1 h1
      exact iha _ _ _ h1 _ (ihb _ _ _ h Q hQ)
    · rename_i hne
      refine iha _ _ _ h _ ?_
      cases ex with
      | normal => exact absurd h (hne e')
      | exit i => exact hQ
      | ret => exact hQ
  | cond t a b iha ihb =>
    intro e e' ex h Q hQ
    unfold eCode at h
    unfold sCode
    rw [E.ev_st]
    split at h
    · rename_i v hv
      rw [hv]
      cases v with
      | true => exact iha _ _ _ h Q hQ
      | false => exact ihb _ _ _ h Q hQ
    · cases h
  | block id a ih =>
    intro e e' ex h Q hQ
    unfold eCode at h
    unfold sCode
    split at h
    · rename_i i e1 h1
      refine ih _ _ _ h1 _ ?_
      simp only [Bool.cond_eq_ite] at h
      split at h
      · rename_i hi
        cases h
        simp only [blockQ]
        rw [if_pos (Nat.eq_of_beq_eq_true hi)]
        exact hQ
      · rename_i hi
        cases h
        simp only [blockQ]
        rw [if_neg (fun he => hi (by rw [he]; simp))]
        exact hQ
    · rename_i hne
      refine ih _ _ _ h _ ?_
      cases ex with
      | normal => exact hQ
      | exit i => exact absurd h (hne i e')
      | ret => exact hQ
  | loop a ih =>
    intro e e' ex h Q hQ
    unfold eCode at h
    unfold sCode
    have key : ∀ (n : Nat) (e : E), eLoop (fun e => eCode c X G lf a e) n e = some (ex, e') → xRounds e.st.bs.length (fun st K => sCode c a st K) Q n e.st ∨ True := fun _ _ _ => .inr trivial
    have main : ∀ (k n : Nat) (e : E), eLoop (fun e => eCode c X G lf a e) n e = some (ex, e') → xRounds k (fun st K => sCode c a st K) Q n e.st := by
      intro k n
      induction n with
      | zero => intro e h; cases h
      | succ n ihn =>
        intro e h
        unfold eLoop at h
        rw [xR_succ]
        split at h
        · rename_i e1 h1
          exact ih _ _ _ h1 _ (.inr (.inr (ihn _ h)))
        · rename_i hne
          refine ih _ _ _ h _ ?_
          cases ex with
          | normal => exact absurd h (hne e')
          | exit i => exact hQ
          | ret => exact hQ
    exact ⟨lf, main _ lf e h⟩
  | exit id => intro e e' ex h Q hQ; cases h; exact hQ
  | ret => intro e e' ex h Q hQ; cases h; exact hQ

def initTr : Nat → List D → Tr → Option Tr
  | _, [], tr => some tr
  | i, d :: ds, tr => match forceD d (fun d => tr.set i d) with
    | some tr' => initTr (i + 1) ds tr'
    | none => none
theorem initTr_get : ∀ (ds : List D) (i : Nat) (tr tr' : Tr), initTr i ds tr = some tr' → ∀ t, tr'.get t = if i ≤ t ∧ t < i + ds.length then ds.getD (t - i) .undef else tr.get t := by
  intro ds
  induction ds with
  | nil => intro i tr tr' h t; cases h; simp; intro h1 h2; omega
  | cons d ds ih =>
    intro i tr tr' h t
    unfold initTr at h
    rw [forceD_eq] at h
    split at h
    · rename_i tr1 h1
      rw [ih _ _ _ h t, Tr.get_set _ _ _ _ h1]
      unfold upd
      by_cases h2 : t = i
      · subst h2
        rw [if_neg (by omega), if_pos rfl, if_pos (by simp)]
        simp
      · by_cases h3 : i + 1 ≤ t ∧ t < i + 1 + ds.length
        · rw [if_pos h3, if_pos (by simp only [List.length_cons]; omega)]
          have : t - i = (t - (i + 1)) + 1 := by omega
          rw [this, List.getD_cons_succ]
        · rw [if_neg h3, if_neg h2, if_neg (by simp only [List.length_cons]; omega)]
    · cases h

def eEnd (c : Cfg) (F : SF) (e : E) : Option (D × List Blk) := match resL c.T e.st F.res with
  | some ds => leave c.n0 e.st (resOne ds)
  | none => none
def eFun (c : Cfg) (X : XC) (G : XG) (lf : Nat) (F : SF) (args : List D) (bs : List Blk) : Option (D × List Blk) :=
  match initTr 0 args (Tr.mk 9) with
  | some tr => match eCode c X G lf F.body ⟨tr, bs⟩ with
    | some (.normal, e) => eEnd c F e
    | some (.ret, e) => eEnd c F e
    | _ => none
  | none => none
theorem eEnd_sound {c : Cfg} {F : SF} {e : E} {r : D} {bs' : List Blk} (h : eEnd c F e = some (r, bs')) : ∃ ds, resL c.T e.st F.res = some ds ∧ leave c.n0 e.st (resOne ds) = some (r, bs') := by
  unfold eEnd at h
  split at h
  · rename_i ds hds; exact ⟨ds, hds, h⟩
  · cases h
theorem eFun_sound {c : Cfg} {X : XC} {G : XG} (hX : ∀ f args bs r bs', X f args bs = some (r, bs') → c.C f args bs r bs') (hG : ∀ f rows esz rest R, G f rows esz rest = some R → GivesC c.G f rows esz rest R) {lf : Nat}
    {F : SF} {args : List D} {bs : List Blk} {r : D} {bs' : List Blk} (h : eFun c X G lf F args bs = some (r, bs')) : sFun c F args bs r bs' := by
  unfold eFun at h
  split at h
  · rename_i tr htr
    have hst : E.st ⟨tr, bs⟩ = start args bs := by
      simp only [E.st, start]
      congr 1
      funext t
      rw [initTr_get _ _ _ _ htr t, Tr.get_mk]
      by_cases ht : t < args.length
      · rw [if_pos (by omega)]; rfl
      · rw [if_neg (by omega)]
        simp [List.getD, List.getElem?_eq_none (by omega : args.length ≤ t)]
    unfold sFun
    rw [← hst]
    split at h
    · rename_i e h1
      exact eCode_sound hX hG lf _ _ _ _ h1 _ (eEnd_sound h)
    · rename_i e h1
      exact eCode_sound hX hG lf _ _ _ _ h1 _ (eEnd_sound h)
    · cases h
  · cases h

structure FE where
  own : List Nat
  lend : List Nat
  give : List Nat
  ovl : List Nat
  F : SF
def D.empty : D → Bool
  | .nil => true
  | .sl [] 0 => true
  | _ => false
def bothZ (a b : Option (D × List Blk)) : Option (D × List Blk) := match a, b with
  | some (r, n), some (r', n') => cond (D.beq r' r && beqB n' n) (some (r, n)) none
  | _, _ => none
def runZ (X : List D → Option (D × List Blk)) (args : List D) (bs : List Blk) : Option (D × List Blk) := match args, bs with
  | [x], [] => cond x.empty (bothZ (X [.zs true]) (X [.zs false])) none
  | _, _ => none
def run (mk : FE → Nat → Cfg) (tab : Nat → Option FE) (H : XC) (G : XG) (lf : Nat) : Nat → XC
  | 0, _, _, _ => none
  | n + 1, f, args, bs => match H f args bs with
    | some r => some r
    | none => match tab f with
      | some fe => match eFun (mk fe bs.length) (run mk tab H G lf n) G lf fe.F args bs with
        | some r => some r
        | none => runZ (fun args => eFun (mk fe 0) (run mk tab H G lf n) G lf fe.F args []) args bs
      | none => none
theorem run_sound {mk : FE → Nat → Cfg} {tab : Nat → Option FE} {H : XC} {G : XG} {lf : Nat} {C : Con} (hC : ∀ fe n, (mk fe n).C = C) (hG : ∀ fe n f rows esz rest R, G f rows esz rest = some R → GivesC (mk fe n).G f rows esz rest R)
    (hH : ∀ f args bs r bs', H f args bs = some (r, bs') → C f args bs r bs')
    (hF : ∀ f fe args bs r bs', tab f = some fe → sFun (mk fe bs.length) fe.F args bs r bs' → C f args bs r bs')
    (hZ : ∀ f x r nbs, x.empty = true → C f [.zs true] [] r nbs → C f [.zs false] [] r nbs → C f [x] [] r nbs) :
    ∀ (n f : Nat) (args : List D) (bs : List Blk) (r : D) (bs' : List Blk), run mk tab H G lf n f args bs = some (r, bs') → C f args bs r bs' := by
  intro n
  induction n with
  | zero => intro f args bs r bs' h; cases h
  | succ n ih =>
    intro f args bs r bs' h
    unfold run at h
    split at h
    · rename_i x hx; cases h; exact hH _ _ _ _ _ hx
    · split at h
      · rename_i fe hfe
        split at h
        · rename_i x hx
          cases h
          exact hF _ _ _ _ _ _ hfe (eFun_sound (fun f args bs r bs' h => by rw [hC]; exact ih f args bs r bs' h) (hG fe bs.length) hx)
        · unfold runZ at h
          split at h
          · rename_i x
            simp only [Bool.cond_eq_ite] at h
            split at h
            · rename_i hx
              unfold bothZ at h
              split at h
              · rename_i r1 n1 r2 n2 h1 h2
                simp only [Bool.cond_eq_ite] at h
                split at h
                · rename_i hb
                  cases h
                  simp only [Bool.and_eq_true] at hb
                  have e1 := D.beq_sound _ _ hb.1
                  have e2 := beqB_sound _ _ hb.2
                  subst e1 e2
                  have key : ∀ z, eFun (mk fe 0) (run mk tab H G lf n) G lf fe.F [z] [] = some (r2, n2) → C f [z] [] r2 n2 := fun z hz =>
                    hF _ _ _ [] _ _ hfe (eFun_sound (fun f args bs r bs' h => by rw [hC]; exact ih f args bs r bs' h) (hG fe 0) hz)
                  exact hZ _ _ _ _ hx (key _ h1) (key _ h2)
                · cases h
              · cases h
            · cases h
          · cases h
      · cases h

def known : List (Nat × List D × D × List Blk) → XC
  | [], _, _, _ => none
  | (g, us, r, nbs) :: l, f, args, bs => cond (Nat.beq f g && (bs.isEmpty && beqL us args)) (some (r, nbs)) (known l f args bs)
theorem known_sound {C : Con} : ∀ (l : List (Nat × List D × D × List Blk)), (∀ x ∈ l, C x.1 x.2.1 [] x.2.2.1 x.2.2.2) → ∀ f args bs r bs', known l f args bs = some (r, bs') → C f args bs r bs' := by
  intro l
  induction l with
  | nil => intro _ f args bs r bs' h; cases h
  | cons x l ih =>
    obtain ⟨g, us, r0, nbs⟩ := x
    intro hl f args bs r bs' h
    unfold known at h
    simp only [Bool.cond_eq_ite] at h
    split at h
    · rename_i hc
      simp only [Bool.and_eq_true, Nat.beq_eq, List.isEmpty_iff] at hc
      cases h
      have := hl _ (List.mem_cons_self ..)
      rw [hc.1, hc.2.1, ← beqL_sound _ _ hc.2.2]
      exact this
    · exact ih (fun x hx => hl x (List.mem_cons_of_mem _ hx)) _ _ _ _ _ h
def SFof (P : Program) (f : Nat) (l : List Nat) : Option SF := match P.funcs[f]? with
  | some fn => match fn.body with
    | some body => match slim l body with
      | some s => cond (!(fn.name == "runtime.NumGoroutine") && codeOk (bare l) fn.ntmps body) (some ⟨fn.ntmps, fn.results.toList, s⟩) none
      | none => none
    | none => none
  | none => none
theorem SFof_sound {P : Program} {f : Nat} {l : List Nat} {F : SF} (h : SFof P f l = some F) (c : Cfg) (hc : c.lendT = l) : isF P c f F := by
  unfold SFof at h
  split at h
  · rename_i fn hfn
    split at h
    · rename_i body hb
      split at h
      · rename_i s hs
        simp only [Bool.cond_eq_ite] at h
        split at h
        · rename_i hk
          cases h
          simp only [Bool.and_eq_true, Bool.not_eq_true'] at hk
          exact isF_of hfn hk.1 hb hc hk.2 rfl rfl hs
        · cases h
      · cases h
    · cases h
  · cases h
def slimF (P : Program) (f : Nat) (l : List Nat) : SF := match P.funcs[f]? with
  | some fn => match fn.body with
    | some body => match slim l body with
      | some s => ⟨fn.ntmps, fn.results.toList, s⟩
      | none => ⟨0, [], .skip⟩
    | none => ⟨0, [], .skip⟩
  | none => ⟨0, [], .skip⟩
theorem slimF_sound {P : Program} {f : Nat} {l : List Nat} (h : (SFof P f l).isSome = true) (c : Cfg) (hc : c.lendT = l) : isF P c f (slimF P f l) := by
  rw [Option.isSome_iff_exists] at h
  obtain ⟨F, hF⟩ := h
  have h2 := SFof_sound hF c hc
  suffices hs : F = slimF P f l by rw [← hs]; exact h2
  unfold SFof at hF
  unfold slimF
  split at hF
  · rename_i fn hfn
    try rw [hfn]
    try simp only
    split at hF
    · rename_i body hb
      try rw [hb]
      try simp only
      split at hF
      · rename_i s hs
        try simp only [hs]
        simp only [Bool.cond_eq_ite] at hF
        split at hF
        · cases hF; rfl
        · cases hF
      · cases hF
    · cases hF
  · cases hF
structure XR where
  f : Nat
  own : List Nat
  lend : List Nat
  give : List Nat
  ovl : List Nat
def findX : List XR → Nat → Option XR
  | [], _ => none
  | x :: l, f => cond (Nat.beq x.f f) (some x) (findX l f)
theorem findX_mem : ∀ (l : List XR) (f : Nat) (x : XR), findX l f = some x → x ∈ l ∧ x.f = f := by
  intro l
  induction l with
  | nil => intro f x h; cases h
  | cons y l ih =>
    intro f x h
    unfold findX at h
    simp only [Bool.cond_eq_ite] at h
    split at h
    · rename_i hf; cases h; exact ⟨List.mem_cons_self .., Nat.eq_of_beq_eq_true hf⟩
    · obtain ⟨h1, h2⟩ := ih f x h; exact ⟨List.mem_cons_of_mem _ h1, h2⟩
def tabX (P : Program) (l : List XR) (f : Nat) : Option FE := match findX l f with
  | some x => some ⟨x.own, x.lend, x.give, x.ovl, slimF P x.f x.lend⟩
  | none => none
def knownG : List (Nat × List (List D) × Nat × List D × List (List D)) → XG
  | [], _, _, _, _ => none
  | (g, rs, e, us, R) :: l, f, rows, esz, rest => cond (Nat.beq f g && (Nat.beq esz e && (beqLL rs rows && beqL us rest))) (some R) (knownG l f rows esz rest)
theorem knownG_sound {G : Con} : ∀ (l : List (Nat × List (List D) × Nat × List D × List (List D))), (∀ x ∈ l, GivesC G x.1 x.2.1 x.2.2.1 x.2.2.2.1 x.2.2.2.2) → ∀ f rows esz rest R, knownG l f rows esz rest = some R → GivesC G f rows esz rest R := by
  intro l
  induction l with
  | nil => intro _ f rows esz rest R h; cases h
  | cons x l ih =>
    obtain ⟨g, rs, e, us, R0⟩ := x
    intro hl f rows esz rest R h
    unfold knownG at h
    simp only [Bool.cond_eq_ite] at h
    split at h
    · rename_i hc
      simp only [Bool.and_eq_true, Nat.beq_eq] at hc
      cases h
      have := hl _ (List.mem_cons_self ..)
      rw [hc.1, hc.2.1, ← beqLL_sound _ _ hc.2.2.1, ← beqL_sound _ _ hc.2.2.2]
      exact this
    · exact ih (fun x hx => hl x (List.mem_cons_of_mem _ hx)) _ _ _ _ _ h
def chkX (X : XC) (l : List (Nat × List D × D × List Blk)) : Bool := l.all fun x => match X x.1 x.2.1 [] with
  | some (r, nbs) => D.beq r x.2.2.1 && beqB nbs x.2.2.2
  | none => false
theorem chkX_sound {X : XC} {C : Con} {l : List (Nat × List D × D × List Blk)} (h : chkX X l = true) (hX : ∀ f args r nbs, X f args [] = some (r, nbs) → C f args [] r nbs) : ∀ x ∈ l, C x.1 x.2.1 [] x.2.2.1 x.2.2.2 := by
  intro x hx
  unfold chkX at h
  rw [List.all_eq_true] at h
  have := h x hx
  split at this
  · rename_i r nbs hr
    simp only [Bool.and_eq_true] at this
    rw [← D.beq_sound _ _ this.1, ← beqB_sound _ _ this.2]
    exact hX _ _ _ _ hr
  · cases this
end Go.AM
/- AM: awake: the program's own first answers, reckoned out. -/
namespace Go.AM
set_option linter.unusedSimpArgs false
set_option linter.unusedVariables false
set_option maxRecDepth 100000
theorem fits_of {n : Nat} {rows : List (List D)} (h : (rows.all fun r => Nat.beq r.length n && r.all D.isCell) = true) : Fits n rows := by
  intro r hr
  have := List.all_eq_true.1 h r hr
  simp only [Bool.and_eq_true, Nat.beq_eq] at this
  exact this
theorem still_of {rows : List (List D)} (h : (rows.all fun r => r.all D.still) = true) : StillR rows :=
  fun r hr d hd => List.all_eq_true.1 (List.all_eq_true.1 h r hr) d hd
abbrev i (n : Int) : D := .int .i64 n
def xtab : List XR := [
 ⟨11, [12, 13, 18, 23, 27, 29, 48, 52, 56, 64, 69, 74, 82], [], [], []⟩,
 ⟨14, [16, 46, 59, 65], [], [], []⟩,
 ⟨15, [], [], [], []⟩,
 ⟨20, [9, 13, 17, 47], [46], [], []⟩,
 ⟨21, [7, 11, 12, 29, 34], [], [], []⟩,
 ⟨23, [5, 10, 16, 19, 21], [], [], []⟩,
 ⟨28, [10, 14, 27, 44], [43], [], []⟩,
 ⟨37, [15, 19, 23, 39, 46], [], [], []⟩,
 ⟨38, [12, 16, 22, 38, 44, 48], [], [], []⟩,
 ⟨39, [12, 17, 32], [], [], []⟩,
 ⟨40, [28, 32, 43], [], [], []⟩,
 ⟨41, [12, 16, 32, 37, 39, 52, 57, 61], [38, 60], [], []⟩,
 ⟨49, [5], [], [], []⟩,
 ⟨50, [5], [], [], []⟩,
 ⟨51, [9, 12, 14, 15, 17], [], [], []⟩,
 ⟨52, [5], [], [], []⟩,
 ⟨53, [], [], [], []⟩,
 ⟨57, [6, 9, 12, 30], [], [], []⟩,
 ⟨58, [43, 58, 84, 93, 99, 108], [], [], []⟩,
 ⟨59, [10, 15, 26], [8, 24], [], []⟩,
 ⟨60, [16, 37, 46, 52, 63], [14, 41, 61], [], []⟩,
 ⟨70, [17], [], [], []⟩,
 ⟨76, [13], [], [], []⟩,
 ⟨77, [14, 19, 39], [], [], []⟩,
 ⟨78, [10], [], [], []⟩,
 ⟨79, [7], [], [], []⟩,
 ⟨80, [25], [], [], []⟩,
 ⟨81, [8], [], [], []⟩,
 ⟨82, [11], [], [], []⟩,
 ⟨84, [7], [], [], []⟩,
 ⟨85, [6, 11, 28, 38, 45, 49, 55, 59, 70, 74, 83], [], [], []⟩,
 ⟨86, [5, 8, 11], [], [], []⟩,
 ⟨87, [15], [], [], []⟩,
 ⟨108, [], [], [], []⟩,
 ⟨109, [8, 13, 30], [], [], []⟩,
 ⟨110, [5, 8], [], [], []⟩,
 ⟨111, [13], [], [], []⟩,
 ⟨113, [24], [], [], []⟩,
 ⟨114, [9, 13, 17, 23], [], [], []⟩,
 ⟨115, [13], [], [], []⟩,
 ⟨116, [7], [], [], []⟩,
 ⟨118, [], [], [], []⟩,
 ⟨119, [12], [], [], []⟩,
 ⟨120, [7, 11, 17, 27, 43], [], [], []⟩,
 ⟨121, [17], [], [], []⟩,
 ⟨122, [10], [], [], []⟩,
 ⟨123, [5, 9, 14], [], [], []⟩,
 ⟨124, [], [], [], []⟩,
 ⟨132, [13], [], [], []⟩,
 ⟨135, [28], [], [], []⟩,
 ⟨136, [7, 16, 17], [], [], []⟩,
 ⟨137, [], [], [], []⟩,
 ⟨138, [6, 14], [], [], []⟩,
 ⟨139, [7, 10], [8], [], []⟩,
 ⟨140, [], [], [], []⟩,
 ⟨141, [], [], [], []⟩,
 ⟨142, [], [], [], []⟩,
 ⟨143, [], [], [], []⟩,
 ⟨144, [], [], [], []⟩,
 ⟨145, [], [], [], []⟩,
 ⟨146, [6, 19], [], [], []⟩,
 ⟨147, [12], [], [], []⟩,
 ⟨149, [], [], [], []⟩,
 ⟨150, [15], [], [], []⟩,
 ⟨151, [11], [], [], []⟩,
 ⟨152, [35], [], [], []⟩,
 ⟨153, [14], [], [], []⟩,
 ⟨163, [4], [], [], []⟩,
 ⟨164, [7], [], [], []⟩,
 ⟨165, [16], [], [], []⟩,
 ⟨166, [30, 46], [], [], []⟩,
 ⟨167, [9], [], [], []⟩,
 ⟨168, [8, 10], [], [], []⟩,
 ⟨169, [], [], [], []⟩,
 ⟨170, [], [], [], []⟩,
 ⟨181, [9, 24, 40, 47], [], [], []⟩,
 ⟨182, [10], [], [], []⟩,
 ⟨183, [], [], [], []⟩,
 ⟨184, [], [], [], []⟩,
 ⟨187, [], [], [], []⟩,
 ⟨188, [8, 17, 18], [], [], []⟩,
 ⟨189, [16], [], [], []⟩,
 ⟨190, [], [], [], []⟩,
 ⟨191, [8, 12, 17, 19], [17], [17], []⟩,
 ⟨192, [13, 17, 26, 31, 39], [34], [34], []⟩,
 ⟨193, [15], [], [], []⟩,
 ⟨194, [7], [], [], []⟩,
 ⟨195, [14], [], [], []⟩,
 ⟨199, [11, 32], [], [], []⟩,
 ⟨201, [11, 13], [7], [], []⟩,
 ⟨203, [8, 11, 12], [], [], []⟩,
 ⟨204, [], [], [], []⟩,
 ⟨205, [], [], [], []⟩,
 ⟨206, [13, 17, 22, 35], [], [], []⟩,
 ⟨207, [10, 24, 34], [30], [30], []⟩,
 ⟨208, [12, 16, 21, 40, 44], [], [], []⟩,
 ⟨215, [16], [], [], []⟩,
 ⟨216, [], [], [], []⟩,
 ⟨223, [26], [], [], []⟩,
 ⟨227, [11, 15, 16], [], [], []⟩,
 ⟨228, [30, 46], [], [], []⟩,
 ⟨229, [], [], [], []⟩,
 ⟨234, [30, 37, 44, 52, 61, 80, 94, 103, 111, 134, 146], [26, 33, 40, 48, 57, 76, 98, 106, 129, 140], [], []⟩,
 ⟨237, [30, 46], [], [], []⟩,
 ⟨244, [32], [], [], []⟩]
theorem xtab_ok : (xtab.all fun x => x.ovl.isEmpty && (SFof PP x.f x.lend).isSome) = true := by kernel_rfl
def LH : List (Nat × List D × D × List Blk) := [
 (200, [.fn 202 [] [.mem [.sl [[i 3], [i 9]] 2]]], .ref 0 0 2, [⟨[[i 3], [i 9]], 1, .mut⟩]),
 (235, [.int .u64 2], i 2, [])]
def LG : List (Nat × List (List D) × Nat × List D × List (List D)) := [
 (236, [[i 0, i 3, i 9, .sl [] 0, i 0, i 0, i 0, i 0, i 0, .bool false, .bool false]], 11, [i 0, i 1], []),
 (225, [], 1, [.fn 224 [] [.mem [i 3]]], []),
 (226, [], 2, [i 0, .sl [[i 3, i 0]] 1], [[i 3, i 0]]),
 (236, [[i 0, i 3, i 9, .sl [] 0, i 0, i 0, i 0, i 0, i 0, .bool false, .bool false], [i 0, i 9, i 3, .sl [[i 3]] 1, i 0, i 0, i 0, i 0, i 0, .bool false, .bool false]], 11, [i 0, i 1], [[i 0, i 9, i 3, .sl [[i 3]] 1, i 0, i 0, i 0, i 0, i 0, .bool false, .bool false]]),
 (236, [[i 0, i 9, i 3, .sl [[i 3]] 1, i 0, i 0, i 0, i 0, i 0, .bool false, .bool false]], 11, [i 0, i 1], []),
 (225, [[i 9]], 1, [.fn 224 [] [.mem [i 9]]], []),
 (226, [], 2, [i 0, .sl [[i 9, i 0]] 1], [[i 9, i 0]])]
theorem LH_ok : ∀ x ∈ LH, Den PP x.1 x.2.1 [] x.2.2.1 x.2.2.2 := by
  intro x hx
  simp only [LH, List.mem_cons, List.not_mem_nil, or_false] at hx
  rcases hx with rfl | rfl
  · exact collect_den [3, 9] (by simp) (by simp)
  · exact len_den
theorem LG_ok : ∀ x ∈ LG, GivesC (DenF PP [0]) x.1 x.2.1 x.2.2.1 x.2.2.2.1 x.2.2.2.2 := by
  intro x hx
  simp only [LG, List.mem_cons, List.not_mem_nil, or_false] at hx
  rcases hx with rfl | rfl | rfl | rfl | rfl | rfl | rfl
  · exact delete_Msg _ 0 (fits_of rfl) (still_of rfl) (by simp) (by simp)
  · exact deleteFunc_int [] 224 [.mem [.int .i64 3]] (fun a => decide (a = 3)) ⟨fun _ => rfl, fun _ _ => rfl, fun a _ => passive_Without_1 3 a⟩ (by simp)
  · exact insert_Peer [] _ 0 (by intro r hr; cases hr) (by intro r hr; cases hr) (by intro r hr; rw [List.mem_singleton.1 hr]; exact ⟨rfl, rfl⟩) (fun d hd => List.all_eq_true.1 (rfl : List.all _ D.still = true) d hd) (by simp) (by simp)
  · exact delete_Msg _ 0 (fits_of rfl) (still_of rfl) (by simp) (by simp)
  · exact delete_Msg _ 0 (fits_of rfl) (still_of rfl) (by simp) (by simp)
  · exact deleteFunc_int [9] 224 [.mem [.int .i64 9]] (fun a => decide (a = 9)) ⟨fun _ => rfl, fun _ _ => rfl, fun a _ => passive_Without_1 9 a⟩ (by simp)
  · exact insert_Peer [] _ 0 (by intro r hr; cases hr) (by intro r hr; cases hr) (by intro r hr; rw [List.mem_singleton.1 hr]; exact ⟨rfl, rfl⟩) (fun d hd => List.all_eq_true.1 (rfl : List.all _ D.still = true) d hd) (by simp) (by simp)
noncomputable def mkX (fe : FE) (n : Nat) : Cfg := cfx n fe.own fe.lend fe.give [] fe.ovl
noncomputable abbrev XX (L : List (Nat × List D × D × List Blk)) : XC := run mkX (tabX PP xtab) (known L) (knownG LG) 1000 40
theorem XX_sound (L : List (Nat × List D × D × List Blk)) (hL : ∀ x ∈ L, Den PP x.1 x.2.1 [] x.2.2.1 x.2.2.2) (f : Nat) (args : List D) (bs : List Blk) (r : D) (bs' : List Blk) (h : XX L f args bs = some (r, bs')) : Den PP f args bs r bs' := by
  refine run_sound (C := Den PP) (fun _ _ => rfl) (fun fe n f rows esz rest R hR => knownG_sound LG LG_ok _ _ _ _ _ hR) (known_sound L hL) ?_ ?_ 40 f args bs r bs' h
  · intro f fe args bs r bs' hfe h
    unfold tabX at hfe
    split at hfe
    · rename_i x hx
      cases hfe
      obtain ⟨hm, rfl⟩ := findX_mem _ _ _ hx
      have hk := List.all_eq_true.1 xtab_ok x hm
      simp only [Bool.and_eq_true, List.isEmpty_iff] at hk
      refine den_ofG x.own x.lend x.give x.ovl (fun f hf => by rw [hk.1] at hf; exact absurd hf List.not_mem_nil) (slimF_sound hk.2) ?_
      simpa only [mkX] using h
    · cases hfe
  · intro f x r nbs hx h1 h2
    have key : Den PP f [.sl [] 0] [] r nbs := den_zs (pre := []) (post := []) h1 h2
    unfold D.empty at hx
    split at hx
    · exact den_nrm (by simpa using key)
    · exact key
    · cases hx
theorem chkL {L M : List (Nat × List D × D × List Blk)} (hL : ∀ x ∈ L, Den PP x.1 x.2.1 [] x.2.2.1 x.2.2.2) (h : chkX (XX L) M = true) : ∀ x ∈ M ++ L, Den PP x.1 x.2.1 [] x.2.2.1 x.2.2.2 := by
  intro x hx
  rcases List.mem_append.1 hx with h1 | h1
  · exact chkX_sound (C := Den PP) h (fun f args r nbs h => XX_sound L hL _ _ _ _ _ h) x h1
  · exact hL x h1
def VW1 : List (Nat × List D × D × List Blk) := [
 (23, [.agg [.sl [[.bool true, i 3, .nil, .sl [[i 9]] 1, .sl [[i 5, i 1, i 3, i 7, .bool false]] 1, .nil], [.bool true, i 9, .nil, .sl [] 0, .nil, .nil]] 2, .nil, .nil]], .bool true, []),
 (23, [.agg [.sl [[.bool true, i 3, .sl [] 0, .sl [[i 9]] 1, .sl [[i 5, i 1, i 3, i 7, .bool false]] 1, .sl [] 0], [.bool true, i 9, .sl [] 0, .sl [] 0, .sl [] 0, .sl [] 0]] 2, .sl [] 0, .sl [] 0]], .bool true, []),
 (23, [.agg [.sl [[.bool true, i 3, .sl [] 0, .sl [[i 9]] 1, .sl [[i 5, i 1, i 3, i 7, .bool false]] 1, .sl [] 0], [.bool true, i 9, .sl [] 0, .sl [] 0, .sl [] 0, .sl [] 0]] 2, .sl [] 0, .sl [[i 0, i 3, i 9, .sl [] 0, i 0, i 0, i 0, i 0, i 0, .bool false, .bool false]] 1]], .bool true, []),
 (23, [.agg [.sl [[.bool true, i 3, .sl [] 0, .sl [[i 9]] 1, .sl [[i 5, i 1, i 3, i 7, .bool false]] 1, .sl [] 0], [.bool true, i 9, .sl [[i 3, i 0]] 1, .sl [] 0, .sl [] 0, .sl [] 0]] 2, .sl [] 0, .sl [] 0]], .bool true, []),
 (23, [.agg [.sl [[.bool true, i 3, .sl [] 0, .sl [[i 9]] 1, .sl [[i 5, i 1, i 3, i 7, .bool false]] 1, .sl [] 0], [.bool true, i 9, .sl [[i 3, i 0]] 1, .sl [] 0, .sl [] 0, .sl [] 0]] 2, .sl [] 0, .nil]], .bool true, []),
 (23, [.agg [.sl [[.bool true, i 3, .sl [] 0, .sl [[i 9]] 1, .sl [[i 5, i 1, i 3, i 7, .bool false]] 1, .sl [] 0], [.bool true, i 9, .sl [[i 3, i 0]] 1, .sl [] 0, .sl [] 0, .sl [] 0]] 2, .sl [] 0, .sl [[i 0, i 3, i 9, .sl [] 0, i 0, i 0, i 0, i 0, i 0, .bool false, .bool false]] 1]], .bool true, [])]
theorem ck_W1 : chkX (XX LH) VW1 = true := by kernel_rfl
abbrev LW1 : List (Nat × List D × D × List Blk) := VW1 ++ LH
theorem LW1_ok : ∀ x ∈ LW1, Den PP x.1 x.2.1 [] x.2.2.1 x.2.2.2 := chkL LH_ok ck_W1
def VW2 : List (Nat × List D × D × List Blk) := [
 (23, [.agg [.sl [[.bool true, i 3, .sl [] 0, .sl [[i 9]] 1, .sl [[i 5, i 1, i 3, i 7, .bool false]] 1, .sl [] 0], [.bool true, i 9, .sl [[i 3, i 1]] 1, .sl [] 0, .sl [] 0, .sl [] 0]] 2, .sl [] 0, .sl [[i 0, i 3, i 9, .sl [] 0, i 0, i 0, i 0, i 0, i 0, .bool false, .bool false]] 1]], .bool true, []),
 (23, [.agg [.sl [[.bool true, i 3, .sl [] 0, .sl [[i 9]] 1, .sl [[i 5, i 1, i 3, i 7, .bool false]] 1, .sl [] 0], [.bool true, i 9, .sl [[i 3, i 1]] 1, .sl [] 0, .sl [] 0, .sl [] 0]] 2, .sl [] 0, .sl [[i 0, i 9, i 3, .sl [[i 3]] 1, i 0, i 0, i 0, i 0, i 0, .bool false, .bool false]] 1]], .bool true, []),
 (23, [.agg [.sl [[.bool true, i 3, .sl [] 0, .sl [[i 9]] 1, .sl [[i 5, i 1, i 3, i 7, .bool false]] 1, .sl [] 0], [.bool true, i 9, .sl [[i 3, i 1]] 1, .sl [] 0, .sl [] 0, .sl [] 0]] 2, .sl [] 0, .sl [[i 0, i 3, i 9, .sl [] 0, i 0, i 0, i 0, i 0, i 0, .bool false, .bool false], [i 0, i 9, i 3, .sl [[i 3]] 1, i 0, i 0, i 0, i 0, i 0, .bool false, .bool false]] 2]], .bool true, []),
 (23, [.agg [.sl [[.bool true, i 3, .sl [] 0, .sl [[i 9]] 1, .sl [[i 5, i 1, i 3, i 7, .bool false]] 1, .sl [] 0], [.bool true, i 9, .sl [[i 3, i 0]] 1, .sl [] 0, .sl [] 0, .sl [] 0]] 2, .sl [] 0, .sl [[i 0, i 9, i 3, .sl [[i 3]] 1, i 0, i 0, i 0, i 0, i 0, .bool false, .bool false]] 1]], .bool true, []),
 (23, [.agg [.sl [[.bool true, i 3, .sl [[i 9, i 0]] 1, .sl [] 0, .sl [[i 5, i 1, i 3, i 7, .bool false]] 1, .sl [] 0], [.bool true, i 9, .sl [[i 3, i 0]] 1, .sl [] 0, .sl [] 0, .sl [] 0]] 2, .sl [] 0, .sl [] 0]], .bool true, []),
 (23, [.agg [.sl [[.bool true, i 3, .sl [[i 9, i 0]] 1, .sl [] 0, .sl [[i 5, i 1, i 3, i 7, .bool false]] 1, .sl [] 0], [.bool true, i 9, .sl [[i 3, i 0]] 1, .sl [] 0, .sl [] 0, .sl [] 0]] 2, .sl [] 0, .nil]], .bool true, [])]
theorem ck_W2 : chkX (XX LW1) VW2 = true := by kernel_rfl
abbrev LW2 : List (Nat × List D × D × List Blk) := VW2 ++ LW1
theorem LW2_ok : ∀ x ∈ LW2, Den PP x.1 x.2.1 [] x.2.2.1 x.2.2.2 := chkL LW1_ok ck_W2
def VA1 : List (Nat × List D × D × List Blk) := [
 (20, [.agg [.sl [[.bool true, i 3, .sl [] 0, .sl [[i 9]] 1, .sl [[i 5, i 1, i 3, i 7, .bool false]] 1, .sl [] 0], [.bool true, i 9, .sl [] 0, .sl [] 0, .sl [] 0, .sl [] 0]] 2, .sl [] 0, .sl [] 0], .agg [i 0, i 3, i 0, i 0, .nil, i 0, i 0]], .tup [.agg [.ref 0 0 2, .ref 1 0 0, .ref 2 0 1], i 0], [⟨[[.bool true, i 3, .sl [] 0, .sl [[i 9]] 1, .sl [[i 5, i 1, i 3, i 7, .bool false]] 1, .sl [] 0], [.bool true, i 9, .sl [] 0, .sl [] 0, .sl [] 0, .sl [] 0]], 6, .mut⟩, ⟨[], 2, .mut⟩, ⟨[[i 0, i 3, i 9, .sl [] 0, i 0, i 0, i 0, i 0, i 0, .bool false, .bool false]], 11, .mut⟩]),
 (20, [.agg [.sl [[.bool true, i 3, .sl [] 0, .sl [[i 9]] 1, .sl [[i 5, i 1, i 3, i 7, .bool false]] 1, .sl [] 0], [.bool true, i 9, .sl [] 0, .sl [] 0, .sl [] 0, .sl [] 0]] 2, .sl [] 0, .sl [[i 0, i 3, i 9, .sl [] 0, i 0, i 0, i 0, i 0, i 0, .bool false, .bool false]] 1], .agg [i 0, i 9, i 0, i 0, .nil, i 0, i 0]], .tup [.agg [.ref 0 0 2, .ref 1 0 0, .ref 2 0 1], i 0], [⟨[[.bool true, i 3, .sl [] 0, .sl [[i 9]] 1, .sl [[i 5, i 1, i 3, i 7, .bool false]] 1, .sl [] 0], [.bool true, i 9, .sl [] 0, .sl [] 0, .sl [] 0, .sl [] 0]], 6, .mut⟩, ⟨[], 2, .mut⟩, ⟨[[i 0, i 3, i 9, .sl [] 0, i 0, i 0, i 0, i 0, i 0, .bool false, .bool false]], 11, .mut⟩]),
 (20, [.agg [.sl [[.bool true, i 3, .sl [] 0, .sl [[i 9]] 1, .sl [[i 5, i 1, i 3, i 7, .bool false]] 1, .sl [] 0], [.bool true, i 9, .sl [] 0, .sl [] 0, .sl [] 0, .sl [] 0]] 2, .sl [] 0, .sl [[i 0, i 3, i 9, .sl [] 0, i 0, i 0, i 0, i 0, i 0, .bool false, .bool false]] 1], .agg [i 1, i 0, i 0, i 0, .nil, i 0, i 0]], .tup [.agg [.ref 0 0 2, .ref 1 0 0, .ref 2 0 0], i 0], [⟨[[.bool true, i 3, .sl [] 0, .sl [[i 9]] 1, .sl [[i 5, i 1, i 3, i 7, .bool false]] 1, .sl [] 0], [.bool true, i 9, .sl [[i 3, i 0]] 1, .sl [] 0, .sl [] 0, .sl [] 0]], 6, .mut⟩, ⟨[], 2, .mut⟩, ⟨[], 11, .mut⟩]),
 (20, [.agg [.sl [[.bool true, i 3, .sl [] 0, .sl [[i 9]] 1, .sl [[i 5, i 1, i 3, i 7, .bool false]] 1, .sl [] 0], [.bool true, i 9, .sl [[i 3, i 0]] 1, .sl [] 0, .sl [] 0, .sl [] 0]] 2, .sl [] 0, .sl [] 0], .agg [i 0, i 3, i 0, i 0, .nil, i 0, i 0]], .tup [.agg [.ref 0 0 2, .ref 1 0 0, .ref 2 0 1], i 0], [⟨[[.bool true, i 3, .sl [] 0, .sl [[i 9]] 1, .sl [[i 5, i 1, i 3, i 7, .bool false]] 1, .sl [] 0], [.bool true, i 9, .sl [[i 3, i 0]] 1, .sl [] 0, .sl [] 0, .sl [] 0]], 6, .mut⟩, ⟨[], 2, .mut⟩, ⟨[[i 0, i 3, i 9, .sl [] 0, i 0, i 0, i 0, i 0, i 0, .bool false, .bool false]], 11, .mut⟩])]
theorem ck_A1 : chkX (XX LW2) VA1 = true := by kernel_rfl
abbrev LA1 : List (Nat × List D × D × List Blk) := VA1 ++ LW2
theorem LA1_ok : ∀ x ∈ LA1, Den PP x.1 x.2.1 [] x.2.2.1 x.2.2.2 := chkL LW2_ok ck_A1
def VA2 : List (Nat × List D × D × List Blk) := [
 (20, [.agg [.sl [[.bool true, i 3, .sl [] 0, .sl [[i 9]] 1, .sl [[i 5, i 1, i 3, i 7, .bool false]] 1, .sl [] 0], [.bool true, i 9, .sl [[i 3, i 0]] 1, .sl [] 0, .sl [] 0, .sl [] 0]] 2, .sl [] 0, .sl [[i 0, i 3, i 9, .sl [] 0, i 0, i 0, i 0, i 0, i 0, .bool false, .bool false]] 1], .agg [i 0, i 9, i 0, i 0, .nil, i 0, i 0]], .tup [.agg [.ref 0 0 2, .ref 1 0 0, .ref 2 0 2], i 0], [⟨[[.bool true, i 3, .sl [] 0, .sl [[i 9]] 1, .sl [[i 5, i 1, i 3, i 7, .bool false]] 1, .sl [] 0], [.bool true, i 9, .sl [[i 3, i 1]] 1, .sl [] 0, .sl [] 0, .sl [] 0]], 6, .mut⟩, ⟨[], 2, .mut⟩, ⟨[[i 0, i 3, i 9, .sl [] 0, i 0, i 0, i 0, i 0, i 0, .bool false, .bool false], [i 0, i 9, i 3, .sl [[i 3]] 1, i 0, i 0, i 0, i 0, i 0, .bool false, .bool false]], 11, .mut⟩]),
 (20, [.agg [.sl [[.bool true, i 3, .sl [] 0, .sl [[i 9]] 1, .sl [[i 5, i 1, i 3, i 7, .bool false]] 1, .sl [] 0], [.bool true, i 9, .sl [[i 3, i 1]] 1, .sl [] 0, .sl [] 0, .sl [] 0]] 2, .sl [] 0, .sl [[i 0, i 3, i 9, .sl [] 0, i 0, i 0, i 0, i 0, i 0, .bool false, .bool false], [i 0, i 9, i 3, .sl [[i 3]] 1, i 0, i 0, i 0, i 0, i 0, .bool false, .bool false]] 2], .agg [i 1, i 0, i 0, i 0, .nil, i 0, i 0]], .tup [.agg [.ref 0 0 2, .ref 1 0 0, .ref 2 0 1], i 0], [⟨[[.bool true, i 3, .sl [] 0, .sl [[i 9]] 1, .sl [[i 5, i 1, i 3, i 7, .bool false]] 1, .sl [] 0], [.bool true, i 9, .sl [[i 3, i 0]] 1, .sl [] 0, .sl [] 0, .sl [] 0]], 6, .mut⟩, ⟨[], 2, .mut⟩, ⟨[[i 0, i 9, i 3, .sl [[i 3]] 1, i 0, i 0, i 0, i 0, i 0, .bool false, .bool false]], 11, .mut⟩]),
 (20, [.agg [.sl [[.bool true, i 3, .sl [] 0, .sl [[i 9]] 1, .sl [[i 5, i 1, i 3, i 7, .bool false]] 1, .sl [] 0], [.bool true, i 9, .sl [[i 3, i 0]] 1, .sl [] 0, .sl [] 0, .sl [] 0]] 2, .sl [] 0, .sl [[i 0, i 9, i 3, .sl [[i 3]] 1, i 0, i 0, i 0, i 0, i 0, .bool false, .bool false]] 1], .agg [i 1, i 0, i 0, i 0, .nil, i 0, i 0]], .tup [.agg [.ref 0 0 2, .ref 1 0 0, .ref 2 0 0], i 0], [⟨[[.bool true, i 3, .sl [[i 9, i 0]] 1, .sl [] 0, .sl [[i 5, i 1, i 3, i 7, .bool false]] 1, .sl [] 0], [.bool true, i 9, .sl [[i 3, i 0]] 1, .sl [] 0, .sl [] 0, .sl [] 0]], 6, .mut⟩, ⟨[], 2, .mut⟩, ⟨[], 11, .mut⟩]),
 (20, [.agg [.sl [[.bool true, i 3, .nil, .sl [[i 9]] 1, .sl [[i 5, i 1, i 3, i 7, .bool false]] 1, .nil], [.bool true, i 9, .nil, .sl [] 0, .nil, .nil]] 2, .nil, .nil], .agg [i 0, i 3, i 0, i 0, .nil, i 0, i 0]], .tup [.agg [.ref 0 0 2, .ref 1 0 0, .ref 2 0 1], i 0], [⟨[[.bool true, i 3, .sl [] 0, .sl [[i 9]] 1, .sl [[i 5, i 1, i 3, i 7, .bool false]] 1, .sl [] 0], [.bool true, i 9, .sl [] 0, .sl [] 0, .sl [] 0, .sl [] 0]], 6, .mut⟩, ⟨[], 2, .mut⟩, ⟨[[i 0, i 3, i 9, .sl [] 0, i 0, i 0, i 0, i 0, i 0, .bool false, .bool false]], 11, .mut⟩])]
theorem ck_A2 : chkX (XX LA1) VA2 = true := by kernel_rfl
abbrev LA2 : List (Nat × List D × D × List Blk) := VA2 ++ LA1
theorem LA2_ok : ∀ x ∈ LA2, Den PP x.1 x.2.1 [] x.2.2.1 x.2.2.2 := chkL LA1_ok ck_A2
def VO1 : List (Nat × List D × D × List Blk) := [
 (14, [.agg [.sl [[.bool true, i 3, .sl [[i 9, i 0]] 1, .sl [] 0, .sl [[i 5, i 1, i 3, i 7, .bool false]] 1, .sl [] 0], [.bool true, i 9, .sl [[i 3, i 0]] 1, .sl [] 0, .sl [] 0, .sl [] 0]] 2, .sl [] 0, .sl [] 0]], .tup [.bool true, i 0], [])]
theorem ck_O1 : chkX (XX LA2) VO1 = true := by kernel_rfl
abbrev LO1 : List (Nat × List D × D × List Blk) := VO1 ++ LA2
theorem LO1_ok : ∀ x ∈ LO1, Den PP x.1 x.2.1 [] x.2.2.1 x.2.2.2 := chkL LA2_ok ck_O1
def VR1 : List (Nat × List D × D × List Blk) := [
 (21, [.agg [.sl [[.bool true, i 3, .nil, .sl [[i 9]] 1, .sl [[i 5, i 1, i 3, i 7, .bool false]] 1, .nil], [.bool true, i 9, .nil, .sl [] 0, .nil, .nil]] 2, .nil, .nil]], .tup [.agg [.ref 0 0 2, .ref 1 0 0, .ref 2 0 0], i 0], [⟨[[.bool true, i 3, .sl [] 0, .sl [[i 9]] 1, .sl [[i 5, i 1, i 3, i 7, .bool false]] 1, .sl [] 0], [.bool true, i 9, .sl [[i 3, i 0]] 1, .sl [] 0, .sl [] 0, .sl [] 0]], 6, .mut⟩, ⟨[], 2, .mut⟩, ⟨[], 11, .mut⟩]),
 (21, [.agg [.sl [[.bool true, i 3, .sl [] 0, .sl [[i 9]] 1, .sl [[i 5, i 1, i 3, i 7, .bool false]] 1, .sl [] 0], [.bool true, i 9, .sl [[i 3, i 0]] 1, .sl [] 0, .sl [] 0, .sl [] 0]] 2, .sl [] 0, .sl [] 0]], .tup [.agg [.ref 0 0 2, .ref 1 0 0, .ref 2 0 0], i 0], [⟨[[.bool true, i 3, .sl [[i 9, i 0]] 1, .sl [] 0, .sl [[i 5, i 1, i 3, i 7, .bool false]] 1, .sl [] 0], [.bool true, i 9, .sl [[i 3, i 0]] 1, .sl [] 0, .sl [] 0, .sl [] 0]], 6, .mut⟩, ⟨[], 2, .mut⟩, ⟨[], 11, .mut⟩])]
theorem ck_R1 : chkX (XX LO1) VR1 = true := by kernel_rfl
abbrev LR1 : List (Nat × List D × D × List Blk) := VR1 ++ LO1
theorem LR1_ok : ∀ x ∈ LR1, Den PP x.1 x.2.1 [] x.2.2.1 x.2.2.2 := chkL LO1_ok ck_R1
theorem awake_run : XX LR1 11 [] [] = some (.bool true, []) := by kernel_rfl
theorem awake : Den PP 11 [] [] (.bool true) [] := XX_sound LR1 LR1_ok _ _ _ _ _ awake_run
end Go.AM
/- Plain law: where a search by a comparison ends; stores by it. -/
namespace Go.AM
set_option linter.unusedSimpArgs false
set_option linter.unusedVariables false

def posC {α : Type} (c : α → Int) (xs : List α) : Nat := (xs.takeWhile fun x => decide (c x < 0)).length
def atC {α : Type} (c : α → Int) (xs : List α) : Bool := (xs[posC c xs]?).any fun x => decide (c x = 0)
def MonoC {α : Type} (c : α → Int) (xs : List α) : Prop := ∀ (i j : Nat) (x y : α), i ≤ j → xs[i]? = some x → xs[j]? = some y → c y < 0 → c x < 0
theorem posC_cons {α : Type} (c : α → Int) (a : α) (xs : List α) : posC c (a :: xs) = if c a < 0 then posC c xs + 1 else 0 := by
  unfold posC
  rw [List.takeWhile_cons]
  by_cases h : c a < 0 <;> simp [h]
theorem atC_nil {α : Type} (c : α → Int) : atC c [] = false := rfl
theorem atC_cons {α : Type} (c : α → Int) (a : α) (xs : List α) : atC c (a :: xs) = if c a < 0 then atC c xs else decide (c a = 0) := by
  unfold atC
  rw [posC_cons]
  by_cases h : c a < 0 <;> simp [h]
theorem posC_le {α : Type} (c : α → Int) (xs : List α) : posC c xs ≤ xs.length := by
  induction xs with
  | nil => simp [posC]
  | cons a xs ih => rw [posC_cons]; split <;> simp <;> omega
theorem posC_lo {α : Type} (c : α → Int) (xs : List α) : ∀ (i : Nat) (x : α), i < posC c xs → xs[i]? = some x → c x < 0 := by
  induction xs with
  | nil => intro i x h; simp [posC] at h
  | cons a xs ih =>
    intro i x h hx
    rw [posC_cons] at h
    by_cases ha : c a < 0
    · rw [if_pos ha] at h
      cases i with
      | zero => simp at hx; subst hx; exact ha
      | succ i => exact ih i x (by omega) (by simpa using hx)
    · rw [if_neg ha] at h; omega
theorem posC_at {α : Type} (c : α → Int) (xs : List α) : ∀ x, xs[posC c xs]? = some x → 0 ≤ c x := by
  induction xs with
  | nil => intro x h; simp [posC] at h
  | cons a xs ih =>
    intro x hx
    rw [posC_cons] at hx
    by_cases ha : c a < 0
    · rw [if_pos ha] at hx
      exact ih x (by simpa using hx)
    · rw [if_neg ha] at hx
      simp at hx
      subst hx
      omega
theorem posC_hi {α : Type} {c : α → Int} {xs : List α} (hm : MonoC c xs) : ∀ (i : Nat) (x : α), posC c xs ≤ i → xs[i]? = some x → 0 ≤ c x := by
  intro i x hi hx
  apply Classical.byContradiction
  intro hc
  have hlt : posC c xs < xs.length := by
    have := (List.getElem?_eq_some_iff.1 hx).1
    omega
  have h1 : xs[posC c xs]? = some xs[posC c xs] := by simp
  have h2 := hm _ _ _ _ hi h1 hx (by omega)
  have h3 := posC_at c xs _ h1
  omega
theorem atC_true {α : Type} {c : α → Int} {xs : List α} (h : atC c xs = true) : posC c xs < xs.length ∧ ∃ x, xs[posC c xs]? = some x ∧ c x = 0 := by
  unfold atC at h
  cases hx : xs[posC c xs]? with
  | none => rw [hx] at h; cases h
  | some x =>
    rw [hx] at h
    exact ⟨(List.getElem?_eq_some_iff.1 hx).1, x, rfl, by simpa using h⟩

def keyC (k : Int) (i : Item) : Int := cmpI i.key k
theorem cmpI_lt (a b : Int) : cmpI a b < 0 ↔ a < b := by unfold cmpI; split <;> (try split) <;> omega
theorem cmpI_eq (a b : Int) : cmpI a b = 0 ↔ a = b := by unfold cmpI; split <;> (try split) <;> omega
theorem risingK_get : ∀ {is : List Item}, risingK is → ∀ (i j : Nat) (x y : Item), i < j → is[i]? = some x → is[j]? = some y → x.key < y.key := by
  intro is
  induction is with
  | nil => intro _ i j x y _ h; simp at h
  | cons a is ih =>
    intro h i j x y hij hx hy
    rw [rising_cons] at h
    cases j with
    | zero => omega
    | succ j =>
      simp at hy
      cases i with
      | zero =>
        simp at hx
        subst hx
        exact h.1 y (List.mem_of_getElem? hy)
      | succ i => exact ih h.2 i j x y (by omega) (by simpa using hx) hy
theorem mono_key {is : List Item} (h : risingK is) (k : Int) : MonoC (keyC k) is := by
  intro i j x y hij hx hy hc
  unfold keyC at hc ⊢
  rw [cmpI_lt] at hc ⊢
  by_cases e : i = j
  · subst e
    rw [hx] at hy
    cases hy
    exact hc
  · have := risingK_get h i j x y (by omega) hx hy
    omega
theorem getS_at : ∀ {is : List Item}, risingK is → ∀ k, getS is k = if atC (keyC k) is then is[posC (keyC k) is]? else none := by
  intro is
  induction is with
  | nil => intro _ k; simp [getS, atC_nil]
  | cons a is ih =>
    intro h k
    rw [rising_cons] at h
    rw [getS_cons, posC_cons, atC_cons]
    simp only [keyC, cmpI_lt, cmpI_eq]
    by_cases h1 : a.key < k
    · rw [if_neg (by omega), if_pos h1, if_pos h1, ih h.2 k]
      simp [keyC]
    · by_cases h2 : a.key = k
      · simp [h1, h2]
      · simp [h1, h2]
        exact getS_above h.1 (by omega)
theorem putS_at (x : Item) : ∀ (is : List Item), (∀ a, is[posC (keyC x.key) is]? = some a → atC (keyC x.key) is = true → putS x is = is.set (posC (keyC x.key) is) (bestI a x)) ∧ (atC (keyC x.key) is = false → putS x is = insL is (posC (keyC x.key) is) x) := by
  intro is
  induction is with
  | nil => exact ⟨fun a h => by simp at h, fun _ => by simp [putS, insL, posC]⟩
  | cons b is ih =>
    rw [posC_cons, atC_cons]
    simp only [keyC, cmpI_lt, cmpI_eq]
    by_cases h1 : b.key < x.key
    · simp only [if_pos h1]
      have e : putS x (b :: is) = b :: putS x is := by
        unfold putS
        rw [if_neg (by omega), if_neg (by omega)]
        cases is <;> simp [putS]
      rw [e]
      exact ⟨fun a ha ht => by rw [ih.1 a (by simpa using ha) ht]; rfl, fun ht => by rw [ih.2 ht]; simp [insL, keyC]⟩
    · simp only [if_neg h1]
      by_cases h2 : b.key = x.key
      · refine ⟨fun a ha _ => ?_, fun ht => by simp [h2] at ht⟩
        simp at ha
        subst ha
        simp [putS, h2]
      · refine ⟨fun a ha ht => by simp [h2] at ht, fun _ => ?_⟩
        have h3 : x.key < b.key := by omega
        simp [putS, h3, insL]
def getR (is : List Item) (k : Int) : Item × Bool := if storeMay is then (match getS is k with | some i => (i, true) | none => (zeroItem, false)) else (zeroItem, false)
end Go.AM
/- AM: contracts: binary search by a comparison. -/
namespace Go.AM
set_option linter.unusedSimpArgs false
set_option linter.unusedVariables false
set_option maxRecDepth 8000
set_option maxHeartbeats 0
theorem bsearch_Item (xs : List Item) (g : Nat) (key : Int) (c : Item → Int) (hc : ∀ x ∈ xs, Den PP g [.agg x.row, .int .i64 key] [] (.int .i64 (c x)) []) (hl : xs.length ≤ cap) (hr : MonoC c xs) :
    Den PP 125 [.sl (xs.map Item.row) xs.length, .int .i64 key, .fn g [] []] [] (.tup [.int .i64 (posC c xs), .bool (atC c xs)]) [] := by
  have hlo := posC_lo c xs
  have hhi := posC_hi hr
  have hat := posC_le c xs
  have hac : atC c xs = (xs[posC c xs]?).any fun x => decide (c x = 0) := rfl
  rw [hac]
  clear hac
  generalize posC c xs = at_ at *
  refine den_of [] [] is_slices_BinarySearchFunc_api_Item_api_Item_int ?_
  simp -implicitDefEqProofs [c_slices_BinarySearchFunc_api_Item_api_Item_int]
  refine loop_rule xs.length (fun m ⟨fr, bs⟩ => ∃ lo hi : Nat, bs = [] ∧ hi - lo ≤ m ∧ lo ≤ at_ ∧ at_ ≤ hi ∧ hi ≤ xs.length ∧ fr 0 = .sl (xs.map Item.row) xs.length ∧ fr 1 = .int .i64 key ∧ fr 2 = .fn g [] [] ∧ fr 8 = .int .i64 xs.length ∧ fr 9 = .int .i64 lo ∧ fr 10 = .int .i64 hi)
    (fun ⟨fr, bs⟩ => bs = [] ∧ fr 0 = .sl (xs.map Item.row) xs.length ∧ fr 1 = .int .i64 key ∧ fr 2 = .fn g [] [] ∧ fr 8 = .int .i64 xs.length ∧ fr 9 = .int .i64 at_) (fun _ => False) c_slices_BinarySearchFunc_api_Item_api_Item_int_L0.eq_1 ?_ ?_ ?_ ?_ ?_
  · exact ⟨0, xs.length, rfl, by omega, by omega, hat, by omega, rfl, rfl, rfl, rfl, rfl, rfl⟩
  · rintro ⟨fr, bs⟩ ⟨lo, hi, rfl, h1, h2, h3, h4, h0, h5, h9, h6, h7, h8⟩
    have e1 : lo = at_ := by omega
    have e2 : hi = at_ := by omega
    simp -implicitDefEqProofs [h0, h5, h9, h6, h7, h8, e1, e2]
  · rintro m ⟨fr, bs⟩ ⟨lo, hi, rfl, h1, h2, h3, h4, h0, h5, h9, h6, h7, h8⟩
    by_cases hlt : lo < hi
    · have hlt' : (lo : Int) < hi := by omega
      have hm := mid_eq (lo := lo) (hi := hi) (by omega) (by omega)
      have hml : (lo + hi) / 2 < xs.length := by omega
      have hml' : (((lo + hi) / 2 : Nat) : Int) < xs.length := by omega
      have hw := wrap_next (n := (lo + hi) / 2) (by unfold cap at hl; omega)
      have hb1 : lo ≤ (lo + hi) / 2 := by omega
      have hb2 : (lo + hi) / 2 < hi := by omega
      generalize (lo + hi) / 2 = mid at *
      obtain ⟨x, hx⟩ : ∃ x, xs[mid] = x := ⟨_, rfl⟩
      have hx' : xs[mid]? = some x := by simp [hml, hx]
      have hcx := hc x (List.mem_of_getElem? hx')
      simp only [Item.row] at hcx
      simp -implicitDefEqProofs [h0, h5, h9, h6, h7, h8, hlt', hlt, hm, hml, hml', hx, Item.row]
      refine callThen_of hcx ?_
      simp -implicitDefEqProofs
      refine condC_dec (fun hc => ?_) (fun hc => ?_)
      all_goals simp -implicitDefEqProofs [h0, h5, h9, h6, h7, h8, hc, hw]
      · have : mid < at_ := by
          apply Classical.byContradiction
          intro hx2
          have := hhi mid x (by omega) hx'
          omega
        exact ⟨mid + 1, hi, by omega, by omega, by omega, by omega, by simp, by simp⟩
      · have : at_ ≤ mid := by
          apply Classical.byContradiction
          intro hx2
          have := hlo mid x (by omega) hx'
          omega
        exact ⟨lo, mid, by omega, by omega, by omega, by omega, by simp, by simp⟩
    · have e1 : lo = at_ := by omega
      have e2 : hi = at_ := by omega
      simp -implicitDefEqProofs [h0, h5, h9, h6, h7, h8, e1, e2]
  · rintro ⟨fr, bs⟩ ⟨rfl, h0, h1, h2, h6, h7⟩
    simp -implicitDefEqProofs [h0, h1, h2, h6, h7]
    refine gOps_dec (fun hc2 => ?_) (fun hc2 => ?_)
    · obtain ⟨x, hx⟩ : ∃ x, xs[at_]'(by omega) = x := ⟨_, rfl⟩
      have hal : at_ < xs.length := by omega
      have hx' : xs[at_]? = some x := by simp [hx, hal]
      have hcx := hc x (List.mem_of_getElem? hx')
      simp only [Item.row] at hcx
      simp -implicitDefEqProofs [h0, h1, h2, h6, h7, hc2, hx, hal, Item.row]
      refine callThen_of hcx ?_
      simp -implicitDefEqProofs [h0, h1, h2, h6, h7, hc2, hx, hal, hx', Item.row]
    · have hp : xs[at_]? = none := by rw [List.getElem?_eq_none]; omega
      simp -implicitDefEqProofs [h0, h1, h2, h6, h7, hc2, hp]
  · rintro ⟨fr, bs⟩ h
    exact h.elim
end Go.AM
/- AM: contracts: the document's answers about views, more. -/
namespace Go.AM
set_option linter.unusedSimpArgs false
set_option linter.unusedVariables false
set_option maxRecDepth 8000
set_option maxHeartbeats 0
end Go.AM
/- AM: contracts: items, stores, nodes. -/
namespace Go.AM
set_option linter.unusedSimpArgs false
set_option linter.unusedVariables false
set_option maxRecDepth 8000
set_option maxHeartbeats 0
theorem version_May (c w : Int) : Den PP 195 [.agg [.int .i64 c, .int .i64 w]] [] (.bool (verMay c w)) [] := by
  refine den_of [] [] is_version_May ?_
  simp -implicitDefEqProofs [c_version_May]
  repeat' ((first | refine callThen_of (by first | exact ring_Place _) ?_ | with_reducible refine gOps_dec (fun _ => ?_) (fun _ => ?_) | with_reducible refine gOps_ndec (fun _ => ?_) (fun _ => ?_) | (with_reducible refine gOps_and (fun hq => ?_) (fun hq => ?_) <;> (try simp at hq)) | (with_reducible refine gOps_or (fun hq => ?_) (fun hq => ?_) <;> (try simp at hq)) | (with_reducible refine gOps_not (fun hq => ?_) (fun hq => ?_) <;> (try simp at hq)) | (with_reducible refine gOps_split (fun hq => ?_) (fun hq => ?_) <;> (try simp at hq)) | with_reducible refine condC_dec (fun _ => ?_) (fun _ => ?_) | with_reducible refine condC_ndec (fun _ => ?_) (fun _ => ?_) | (with_reducible refine condC_and (fun hq => ?_) (fun hq => ?_) <;> (try simp at hq)) | (with_reducible refine condC_or (fun hq => ?_) (fun hq => ?_) <;> (try simp at hq)) | (with_reducible refine condC_not (fun hq => ?_) (fun hq => ?_) <;> (try simp at hq)) | (with_reducible refine condC_split (fun hq => ?_) (fun hq => ?_) <;> (try simp at hq)) | refine appK2_if (by omega) ?_ | refine pureV_if (by omega) ?_) <;> simp -implicitDefEqProofs [*, verMay])
theorem item_Byte (x : Int) : Den PP 149 [.int .i64 x] [] (.bool (byte x)) [] := by
  refine den_of [] [] is_item_Byte ?_
  simp -implicitDefEqProofs [c_item_Byte]
  repeat' ((first | with_reducible refine gOps_dec (fun _ => ?_) (fun _ => ?_) | with_reducible refine gOps_ndec (fun _ => ?_) (fun _ => ?_) | (with_reducible refine gOps_and (fun hq => ?_) (fun hq => ?_) <;> (try simp at hq)) | (with_reducible refine gOps_or (fun hq => ?_) (fun hq => ?_) <;> (try simp at hq)) | (with_reducible refine gOps_not (fun hq => ?_) (fun hq => ?_) <;> (try simp at hq)) | (with_reducible refine gOps_split (fun hq => ?_) (fun hq => ?_) <;> (try simp at hq)) | with_reducible refine condC_dec (fun _ => ?_) (fun _ => ?_) | with_reducible refine condC_ndec (fun _ => ?_) (fun _ => ?_) | (with_reducible refine condC_and (fun hq => ?_) (fun hq => ?_) <;> (try simp at hq)) | (with_reducible refine condC_or (fun hq => ?_) (fun hq => ?_) <;> (try simp at hq)) | (with_reducible refine condC_not (fun hq => ?_) (fun hq => ?_) <;> (try simp at hq)) | (with_reducible refine condC_split (fun hq => ?_) (fun hq => ?_) <;> (try simp at hq)) | refine appK2_if (by omega) ?_ | refine pureV_if (by omega) ?_) <;> simp -implicitDefEqProofs [*, byte])
theorem item_May (i : Item) : Den PP 123 [.agg i.row] [] (.bool (itemMay i)) [] := by
  refine den_of [] [] is_item_May ?_
  simp -implicitDefEqProofs [c_item_May, Item.row]
  repeat' ((first | refine callThen_of (by first | exact item_Byte _ | exact version_May _ _) ?_ | with_reducible refine gOps_dec (fun _ => ?_) (fun _ => ?_) | with_reducible refine gOps_ndec (fun _ => ?_) (fun _ => ?_) | (with_reducible refine gOps_and (fun hq => ?_) (fun hq => ?_) <;> (try simp at hq)) | (with_reducible refine gOps_or (fun hq => ?_) (fun hq => ?_) <;> (try simp at hq)) | (with_reducible refine gOps_not (fun hq => ?_) (fun hq => ?_) <;> (try simp at hq)) | (with_reducible refine gOps_split (fun hq => ?_) (fun hq => ?_) <;> (try simp at hq)) | with_reducible refine condC_dec (fun _ => ?_) (fun _ => ?_) | with_reducible refine condC_ndec (fun _ => ?_) (fun _ => ?_) | (with_reducible refine condC_and (fun hq => ?_) (fun hq => ?_) <;> (try simp at hq)) | (with_reducible refine condC_or (fun hq => ?_) (fun hq => ?_) <;> (try simp at hq)) | (with_reducible refine condC_not (fun hq => ?_) (fun hq => ?_) <;> (try simp at hq)) | (with_reducible refine condC_split (fun hq => ?_) (fun hq => ?_) <;> (try simp at hq)) | refine appK2_if (by omega) ?_ | refine pureV_if (by omega) ?_) <;> simp -implicitDefEqProofs [*, itemMay])
theorem item_May_raw (k c w v : Int) (g : Bool) : Den PP 123 [.agg [.int .i64 k, .int .i64 c, .int .i64 w, .int .i64 v, .bool g]] [] (.bool (itemMay ⟨k, c, w, v, g⟩)) [] := item_May ⟨k, c, w, v, g⟩
def prevKey (is : List Item) (i : Nat) : Option Int := if i = 0 then none else (is[i - 1]?).map Item.key
theorem store_May (is : List Item) (hl : is.length ≤ cap16) : Den PP 115 [itemsD is] [] (.bool (storeMay is)) [] := by
  obtain ⟨A, hA⟩ : ∃ A, itemsOk none is = A := ⟨_, rfl⟩
  unfold cap16 at hl
  refine den_of [] [] is_store_May ?_
  simp -implicitDefEqProofs [c_store_May, itemsD]
  refine list_rule is (fun i rest => fun ⟨fr, bs⟩ => bs = [] ∧ fr 0 = itemsD is ∧ fr 5 = itemsD is ∧ fr 6 = .int .i64 is.length ∧ fr 7 = .int .i64 i ∧ itemsOk (prevKey is i) rest = A)
    (fun ⟨fr, bs⟩ => bs = [] ∧ fr 0 = itemsD is ∧ A = true) (fun ⟨fr, bs⟩ => fr 2 = .bool false ∧ A = false) c_store_May_L0.eq_1 ?_ ?_ ?_ ?_ ?_
  · exact ⟨rfl, rfl, rfl, rfl, rfl, hA⟩
  · rintro i ⟨fr, bs⟩ hi ⟨rfl, h0, h5, h6, h7, he⟩
    simp -implicitDefEqProofs [h0, h5, h6, h7, hi]
    simpa [itemsOk] using he.symm
  · rintro i a rest ⟨fr, bs⟩ hlt hget hg hd hd2 ⟨rfl, h0, h5, h6, h7, he⟩
    have hlt' : (i : Int) < is.length := by omega
    have hw := wrap_next (n := i) (by omega)
    have c1 := item_May a
    simp [Item.row] at c1
    simp only [itemsOk] at he
    have hp : prevKey is (i + 1) = some a.key := by simp [prevKey, hget]
    cases i with
    | zero =>
      simp [prevKey] at he
      simp -implicitDefEqProofs [h0, h5, h6, h7, hlt, hlt', hget, hg, itemsD, Item.row]
      repeat' ((first | refine callThen_of (by first | exact c1) ?_ | with_reducible refine gOps_dec (fun _ => ?_) (fun _ => ?_) | with_reducible refine gOps_ndec (fun _ => ?_) (fun _ => ?_) | (with_reducible refine gOps_and (fun hq => ?_) (fun hq => ?_) <;> (try simp at hq)) | (with_reducible refine gOps_or (fun hq => ?_) (fun hq => ?_) <;> (try simp at hq)) | (with_reducible refine gOps_not (fun hq => ?_) (fun hq => ?_) <;> (try simp at hq)) | (with_reducible refine gOps_split (fun hq => ?_) (fun hq => ?_) <;> (try simp at hq)) | with_reducible refine condC_dec (fun _ => ?_) (fun _ => ?_) | with_reducible refine condC_ndec (fun _ => ?_) (fun _ => ?_) | (with_reducible refine condC_and (fun hq => ?_) (fun hq => ?_) <;> (try simp at hq)) | (with_reducible refine condC_or (fun hq => ?_) (fun hq => ?_) <;> (try simp at hq)) | (with_reducible refine condC_not (fun hq => ?_) (fun hq => ?_) <;> (try simp at hq)) | (with_reducible refine condC_split (fun hq => ?_) (fun hq => ?_) <;> (try simp at hq)) | refine appK2_if (by omega) ?_ | refine pureV_if (by omega) ?_) <;> simp -implicitDefEqProofs [*, itemsD, Item.row, hw])
      all_goals grind
    | succ j =>
      have hj : j < is.length := by omega
      have hj' : (j : Int) < is.length := by omega
      have hjw : IntKind.wrap .i64 (j : Int) = j := wrap_in (by omega) (by omega)
      obtain ⟨b, hb⟩ : ∃ b, is[j] = b := ⟨_, rfl⟩
      have hpj : prevKey is (j + 1) = some b.key := by simp [prevKey, hj, hb]
      rw [hpj] at he
      simp -implicitDefEqProofs [h0, h5, h6, h7, hlt, hlt', hget, hg, itemsD, Item.row]
      repeat' ((first | refine callThen_of (by first | exact c1) ?_ | with_reducible refine gOps_dec (fun _ => ?_) (fun _ => ?_) | with_reducible refine gOps_ndec (fun _ => ?_) (fun _ => ?_) | (with_reducible refine gOps_and (fun hq => ?_) (fun hq => ?_) <;> (try simp at hq)) | (with_reducible refine gOps_or (fun hq => ?_) (fun hq => ?_) <;> (try simp at hq)) | (with_reducible refine gOps_not (fun hq => ?_) (fun hq => ?_) <;> (try simp at hq)) | (with_reducible refine gOps_split (fun hq => ?_) (fun hq => ?_) <;> (try simp at hq)) | with_reducible refine condC_dec (fun _ => ?_) (fun _ => ?_) | with_reducible refine condC_ndec (fun _ => ?_) (fun _ => ?_) | (with_reducible refine condC_and (fun hq => ?_) (fun hq => ?_) <;> (try simp at hq)) | (with_reducible refine condC_or (fun hq => ?_) (fun hq => ?_) <;> (try simp at hq)) | (with_reducible refine condC_not (fun hq => ?_) (fun hq => ?_) <;> (try simp at hq)) | (with_reducible refine condC_split (fun hq => ?_) (fun hq => ?_) <;> (try simp at hq)) | refine appK2_if (by omega) ?_ | refine pureV_if (by omega) ?_) <;> simp -implicitDefEqProofs [*, itemsD, Item.row, hw, hb])
      all_goals grind
  · rintro ⟨fr, bs⟩ ⟨rfl, h0, h1⟩
    simp -implicitDefEqProofs [h0, itemsD, storeMay, hA, h1]
    omega
  · rintro ⟨fr, bs⟩ h
    simp -implicitDefEqProofs [h.1, h.2, storeMay, hA]
theorem node_odd (t : Told) : Den PP 117 [.agg t.row] [] (.bool (toldOdd t)) [] := by
  refine den_of [] [] is_node_odd ?_
  simp -implicitDefEqProofs [c_node_odd, Told.row]
  repeat' ((first | refine callThen_of (by first | exact item_Byte _) ?_ | with_reducible refine gOps_dec (fun _ => ?_) (fun _ => ?_) | with_reducible refine gOps_ndec (fun _ => ?_) (fun _ => ?_) | (with_reducible refine gOps_and (fun hq => ?_) (fun hq => ?_) <;> (try simp at hq)) | (with_reducible refine gOps_or (fun hq => ?_) (fun hq => ?_) <;> (try simp at hq)) | (with_reducible refine gOps_not (fun hq => ?_) (fun hq => ?_) <;> (try simp at hq)) | (with_reducible refine gOps_split (fun hq => ?_) (fun hq => ?_) <;> (try simp at hq)) | with_reducible refine condC_dec (fun _ => ?_) (fun _ => ?_) | with_reducible refine condC_ndec (fun _ => ?_) (fun _ => ?_) | (with_reducible refine condC_and (fun hq => ?_) (fun hq => ?_) <;> (try simp at hq)) | (with_reducible refine condC_or (fun hq => ?_) (fun hq => ?_) <;> (try simp at hq)) | (with_reducible refine condC_not (fun hq => ?_) (fun hq => ?_) <;> (try simp at hq)) | (with_reducible refine condC_split (fun hq => ?_) (fun hq => ?_) <;> (try simp at hq)) | refine appK2_if (by omega) ?_ | refine pureV_if (by omega) ?_) <;> simp -implicitDefEqProofs [*, toldOdd])
end Go.AM
/- AM: contracts: nodes, sharing. -/
namespace Go.AM
set_option linter.unusedSimpArgs false
set_option linter.unusedVariables false
set_option maxRecDepth 8000
set_option maxHeartbeats 0
theorem slices_IndexFunc_Told (xs : List Told) (hl : xs.length ≤ cap) : Den PP 189 [toldsD xs, .fn 117 [] []] [] (.int .i64 (gIdx toldOdd 0 xs)) [] := by
  obtain ⟨A, hA⟩ : ∃ A, gIdx toldOdd 0 xs = A := ⟨_, rfl⟩
  unfold cap at hl
  refine den_of [] [] is_slices_IndexFunc_api_Told_api_Told ?_
  simp -implicitDefEqProofs [c_slices_IndexFunc_api_Told_api_Told, toldsD, hA]
  refine list_rule xs (fun i rest => fun ⟨fr, bs⟩ => bs = [] ∧ fr 0 = toldsD xs ∧ fr 1 = .fn 117 [] [] ∧ fr 7 = .int .i64 xs.length ∧ fr 8 = .int .i64 i ∧ gIdx toldOdd i rest = A)
    (fun ⟨fr, bs⟩ => bs = [] ∧ A = -1) (fun ⟨fr, bs⟩ => fr 4 = .int .i64 A) c_slices_IndexFunc_api_Told_api_Told_L0.eq_1 ?_ ?_ ?_ ?_ ?_
  · exact ⟨rfl, rfl, rfl, rfl, rfl, hA⟩
  · rintro i ⟨fr, bs⟩ hi ⟨rfl, h0, h1, h7, h8, he⟩
    simp -implicitDefEqProofs [h0, h1, h7, h8, hi]
    simpa [gIdx] using he.symm
  · rintro i a rest ⟨fr, bs⟩ hlt hget hg hd hd2 ⟨rfl, h0, h1, h7, h8, he⟩
    have hlt' : (i : Int) < xs.length := by omega
    have hw := wrap_next (n := i) (by omega)
    have c1 := node_odd a
    simp [Told.row] at c1
    simp only [gIdx] at he
    simp -implicitDefEqProofs [h0, h1, h7, h8, hlt, hlt', hget, hg, toldsD, Told.row]
    repeat' ((first | refine callThen_of (by first | exact c1) ?_ | with_reducible refine gOps_dec (fun _ => ?_) (fun _ => ?_) | with_reducible refine gOps_ndec (fun _ => ?_) (fun _ => ?_) | (with_reducible refine gOps_and (fun hq => ?_) (fun hq => ?_) <;> (try simp at hq)) | (with_reducible refine gOps_or (fun hq => ?_) (fun hq => ?_) <;> (try simp at hq)) | (with_reducible refine gOps_not (fun hq => ?_) (fun hq => ?_) <;> (try simp at hq)) | (with_reducible refine gOps_split (fun hq => ?_) (fun hq => ?_) <;> (try simp at hq)) | with_reducible refine condC_dec (fun _ => ?_) (fun _ => ?_) | with_reducible refine condC_ndec (fun _ => ?_) (fun _ => ?_) | (with_reducible refine condC_and (fun hq => ?_) (fun hq => ?_) <;> (try simp at hq)) | (with_reducible refine condC_or (fun hq => ?_) (fun hq => ?_) <;> (try simp at hq)) | (with_reducible refine condC_not (fun hq => ?_) (fun hq => ?_) <;> (try simp at hq)) | (with_reducible refine condC_split (fun hq => ?_) (fun hq => ?_) <;> (try simp at hq)) | refine appK2_if (by omega) ?_ | refine pureV_if (by omega) ?_) <;> simp -implicitDefEqProofs [*, toldsD, Told.row, hw])
    all_goals grind
  · rintro ⟨fr, bs⟩ ⟨rfl, h1⟩
    simp -implicitDefEqProofs [h1]
  · rintro ⟨fr, bs⟩ h
    simp -implicitDefEqProofs [h]
theorem slices_ContainsFunc_Told (xs : List Told) (hl : xs.length ≤ cap) : Den PP 116 [toldsD xs, .fn 117 [] []] [] (.bool (xs.any toldOdd)) [] := by
  have c1 := slices_IndexFunc_Told xs hl
  have h1 := gIdx_any toldOdd xs 0
  obtain ⟨A, hA⟩ : ∃ A, xs.any toldOdd = A := ⟨_, rfl⟩
  rw [hA] at h1
  simp [toldsD] at c1
  refine den_of [] [] is_slices_ContainsFunc_api_Told_api_Told ?_
  simp -implicitDefEqProofs [c_slices_ContainsFunc_api_Told_api_Told, toldsD]
  refine callThen_of c1 ?_
  simp -implicitDefEqProofs [h1, hA]
theorem node_May (x : Node) (hs : x.small) : Den PP 40 [nodeD x] [] (.bool (nodeMay x)) [] := by
  obtain ⟨h1, h2, h3⟩ := hs
  have c1 := view_May x.view h1
  have c2 := store_May x.items (by unfold cap16; omega)
  have c3 := slices_ContainsFunc_Told x.log (by unfold cap; omega)
  obtain ⟨A, hA⟩ : ∃ A, x.log.any toldOdd = A := ⟨_, rfl⟩
  rw [hA] at c3
  simp [viewD, View.cells, peersD, intsD, itemsD, toldsD] at c1 c2 c3
  obtain ⟨hp, hq⟩ := h1
  unfold cap16 at hp
  unfold cap at hq
  have w1 : IntKind.wrap .i64 ((x.view.peers.length : Int) + x.view.passive.length) = x.view.peers.length + x.view.passive.length := wrap_in (by omega) (by omega)
  have w2 : IntKind.wrap .i64 ((x.view.peers.length : Int) + x.view.passive.length + x.items.length) = x.view.peers.length + x.view.passive.length + x.items.length := wrap_in (by omega) (by omega)
  have w3 : IntKind.wrap .i64 ((x.view.peers.length : Int) + x.view.passive.length + x.items.length + x.log.length) = x.view.peers.length + x.view.passive.length + x.items.length + x.log.length := wrap_in (by omega) (by omega)
  refine den_of [] [] is_node_May ?_
  simp -implicitDefEqProofs [c_node_May, nodeD, Node.cells, peersD, intsD, itemsD, toldsD]
  repeat' ((first | refine callThen_of (by first | exact c1 | exact c2 | exact c3) ?_ | with_reducible refine gOps_dec (fun _ => ?_) (fun _ => ?_) | with_reducible refine gOps_ndec (fun _ => ?_) (fun _ => ?_) | (with_reducible refine gOps_and (fun hq => ?_) (fun hq => ?_) <;> (try simp at hq)) | (with_reducible refine gOps_or (fun hq => ?_) (fun hq => ?_) <;> (try simp at hq)) | (with_reducible refine gOps_not (fun hq => ?_) (fun hq => ?_) <;> (try simp at hq)) | (with_reducible refine gOps_split (fun hq => ?_) (fun hq => ?_) <;> (try simp at hq)) | with_reducible refine condC_dec (fun _ => ?_) (fun _ => ?_) | with_reducible refine condC_ndec (fun _ => ?_) (fun _ => ?_) | (with_reducible refine condC_and (fun hq => ?_) (fun hq => ?_) <;> (try simp at hq)) | (with_reducible refine condC_or (fun hq => ?_) (fun hq => ?_) <;> (try simp at hq)) | (with_reducible refine condC_not (fun hq => ?_) (fun hq => ?_) <;> (try simp at hq)) | (with_reducible refine condC_split (fun hq => ?_) (fun hq => ?_) <;> (try simp at hq)) | refine appK2_if (by omega) ?_ | refine pureV_if (by omega) ?_) <;> simp -implicitDefEqProofs [*, w1, w2, w3])
  all_goals simp only [nodeMay, emptyN, hA]
  all_goals grind
theorem node_Up (x : Node) (hs : x.small) : Den PP 84 [nodeD x] [] (.bool (nodeUp x)) [] := by
  have c1 := node_May x hs
  simp only [nodeD, Node.cells, peersD, intsD, itemsD, toldsD] at c1
  refine den_of [] [] is_node_Up ?_
  cases hu : x.up
  all_goals
    rw [hu] at c1
    simp -implicitDefEqProofs [c_node_Up, nodeD, Node.cells, peersD, intsD, itemsD, toldsD, hu]
    repeat' ((first | refine callThen_of (by first | exact c1) ?_ | with_reducible refine gOps_dec (fun _ => ?_) (fun _ => ?_) | with_reducible refine gOps_ndec (fun _ => ?_) (fun _ => ?_) | (with_reducible refine gOps_and (fun hq => ?_) (fun hq => ?_) <;> (try simp at hq)) | (with_reducible refine gOps_or (fun hq => ?_) (fun hq => ?_) <;> (try simp at hq)) | (with_reducible refine gOps_not (fun hq => ?_) (fun hq => ?_) <;> (try simp at hq)) | (with_reducible refine gOps_split (fun hq => ?_) (fun hq => ?_) <;> (try simp at hq)) | with_reducible refine condC_dec (fun _ => ?_) (fun _ => ?_) | with_reducible refine condC_ndec (fun _ => ?_) (fun _ => ?_) | (with_reducible refine condC_and (fun hq => ?_) (fun hq => ?_) <;> (try simp at hq)) | (with_reducible refine condC_or (fun hq => ?_) (fun hq => ?_) <;> (try simp at hq)) | (with_reducible refine condC_not (fun hq => ?_) (fun hq => ?_) <;> (try simp at hq)) | (with_reducible refine condC_split (fun hq => ?_) (fun hq => ?_) <;> (try simp at hq)) | refine appK2_if (by omega) ?_ | refine pureV_if (by omega) ?_) <;> simp -implicitDefEqProofs [*])
    all_goals simp [nodeUp, hu]
end Go.AM
/- AM: contracts: what the statements' own helpers do with items, messages, nodes. -/
namespace Go.AM
set_option linter.unusedSimpArgs false
set_option linter.unusedVariables false
set_option maxRecDepth 8000
set_option maxHeartbeats 0
theorem law_SameItems (xs ys : List Item) (hl : xs.length ≤ cap) : Den PP 44 [itemsD xs, itemsD ys] [] (.bool (decide (xs = ys))) [] := by
  refine den_of [] [] is_gimmallaw0_SameItems ?_
  simp -implicitDefEqProofs [c_gimmallaw0_SameItems, itemsD]
  refine condC_split (fun h => ?_) (fun h => ?_)
  · simp -implicitDefEqProofs
    grind
  have hlen : xs.length = ys.length := by simp at h; omega
  simp -implicitDefEqProofs
  refine list_rule xs (fun i rest => fun ⟨fr, bs⟩ => bs = [] ∧ fr 0 = .sl (xs.map Item.row) xs.length ∧ fr 1 = .sl (ys.map Item.row) ys.length ∧ fr 5 = .int .i64 i ∧ (rest = ys.drop i ↔ xs = ys))
    (fun ⟨fr, bs⟩ => bs = [] ∧ xs = ys) (fun ⟨fr, bs⟩ => fr 4 = .bool false ∧ ¬ xs = ys) c_gimmallaw0_SameItems_L0.eq_1 ?_ ?_ ?_ ?_ ?_
  · exact ⟨rfl, rfl, rfl, rfl, by simp⟩
  · rintro i ⟨fr, bs⟩ hi ⟨rfl, h0, h1, h5, he⟩
    simp -implicitDefEqProofs [*]
    grind
  · rintro i a rest ⟨fr, bs⟩ hlt hget hg hd hd2 ⟨rfl, h0, h1, h5, he⟩
    have hlt' : (i : Int) < xs.length := by omega
    have hlt2 : i < ys.length := by omega
    have hlt3 : (i : Int) < ys.length := by omega
    have hw := wrap_next (n := i) (by unfold cap at hl; omega)
    rw [List.drop_eq_getElem_cons hlt2] at he
    generalize hy : ys[i] = b at he
    simp -implicitDefEqProofs [h0, h1, h5, hlt, hlt', hlt2, hlt3, hget, hg, hy, Item.row, EQS]
    repeat' ((first | with_reducible refine gOps_dec (fun _ => ?_) (fun _ => ?_) | with_reducible refine gOps_ndec (fun _ => ?_) (fun _ => ?_) | (with_reducible refine gOps_and (fun hq => ?_) (fun hq => ?_) <;> (try simp at hq)) | (with_reducible refine gOps_or (fun hq => ?_) (fun hq => ?_) <;> (try simp at hq)) | (with_reducible refine gOps_not (fun hq => ?_) (fun hq => ?_) <;> (try simp at hq)) | (with_reducible refine gOps_split (fun hq => ?_) (fun hq => ?_) <;> (try simp at hq)) | with_reducible refine condC_dec (fun _ => ?_) (fun _ => ?_) | with_reducible refine condC_ndec (fun _ => ?_) (fun _ => ?_) | (with_reducible refine condC_and (fun hq => ?_) (fun hq => ?_) <;> (try simp at hq)) | (with_reducible refine condC_or (fun hq => ?_) (fun hq => ?_) <;> (try simp at hq)) | (with_reducible refine condC_not (fun hq => ?_) (fun hq => ?_) <;> (try simp at hq)) | (with_reducible refine condC_split (fun hq => ?_) (fun hq => ?_) <;> (try simp at hq)) | refine appK2_if (by omega) ?_ | refine pureV_if (by omega) ?_) <;> simp -implicitDefEqProofs [*, EQS, hw, Item.row])
    all_goals (obtain ⟨_, _, _, _, _⟩ := a; obtain ⟨_, _, _, _, _⟩ := b; grind)
  · rintro ⟨fr, bs⟩ ⟨rfl, h6⟩
    simp -implicitDefEqProofs [*]
  · rintro ⟨fr, bs⟩ h
    simp -implicitDefEqProofs [h.1, h.2]
theorem law_SameTolds (xs ys : List Told) (hl : xs.length ≤ cap) : Den PP 99 [toldsD xs, toldsD ys] [] (.bool (decide (xs = ys))) [] := by
  refine den_of [] [] is_gimmallaw0_SameTolds ?_
  simp -implicitDefEqProofs [c_gimmallaw0_SameTolds, toldsD]
  refine condC_split (fun h => ?_) (fun h => ?_)
  · simp -implicitDefEqProofs
    grind
  have hlen : xs.length = ys.length := by simp at h; omega
  simp -implicitDefEqProofs
  refine list_rule xs (fun i rest => fun ⟨fr, bs⟩ => bs = [] ∧ fr 0 = .sl (xs.map Told.row) xs.length ∧ fr 1 = .sl (ys.map Told.row) ys.length ∧ fr 5 = .int .i64 i ∧ (rest = ys.drop i ↔ xs = ys))
    (fun ⟨fr, bs⟩ => bs = [] ∧ xs = ys) (fun ⟨fr, bs⟩ => fr 4 = .bool false ∧ ¬ xs = ys) c_gimmallaw0_SameTolds_L0.eq_1 ?_ ?_ ?_ ?_ ?_
  · exact ⟨rfl, rfl, rfl, rfl, by simp⟩
  · rintro i ⟨fr, bs⟩ hi ⟨rfl, h0, h1, h5, he⟩
    simp -implicitDefEqProofs [*]
    grind
  · rintro i a rest ⟨fr, bs⟩ hlt hget hg hd hd2 ⟨rfl, h0, h1, h5, he⟩
    have hlt' : (i : Int) < xs.length := by omega
    have hlt2 : i < ys.length := by omega
    have hlt3 : (i : Int) < ys.length := by omega
    have hw := wrap_next (n := i) (by unfold cap at hl; omega)
    rw [List.drop_eq_getElem_cons hlt2] at he
    generalize hy : ys[i] = b at he
    simp -implicitDefEqProofs [h0, h1, h5, hlt, hlt', hlt2, hlt3, hget, hg, hy, Told.row, EQS]
    repeat' ((first | with_reducible refine gOps_dec (fun _ => ?_) (fun _ => ?_) | with_reducible refine gOps_ndec (fun _ => ?_) (fun _ => ?_) | (with_reducible refine gOps_and (fun hq => ?_) (fun hq => ?_) <;> (try simp at hq)) | (with_reducible refine gOps_or (fun hq => ?_) (fun hq => ?_) <;> (try simp at hq)) | (with_reducible refine gOps_not (fun hq => ?_) (fun hq => ?_) <;> (try simp at hq)) | (with_reducible refine gOps_split (fun hq => ?_) (fun hq => ?_) <;> (try simp at hq)) | with_reducible refine condC_dec (fun _ => ?_) (fun _ => ?_) | with_reducible refine condC_ndec (fun _ => ?_) (fun _ => ?_) | (with_reducible refine condC_and (fun hq => ?_) (fun hq => ?_) <;> (try simp at hq)) | (with_reducible refine condC_or (fun hq => ?_) (fun hq => ?_) <;> (try simp at hq)) | (with_reducible refine condC_not (fun hq => ?_) (fun hq => ?_) <;> (try simp at hq)) | (with_reducible refine condC_split (fun hq => ?_) (fun hq => ?_) <;> (try simp at hq)) | refine appK2_if (by omega) ?_ | refine pureV_if (by omega) ?_) <;> simp -implicitDefEqProofs [*, EQS, hw, Told.row])
    all_goals (obtain ⟨_, _, _⟩ := a; obtain ⟨_, _, _⟩ := b; grind)
  · rintro ⟨fr, bs⟩ ⟨rfl, h6⟩
    simp -implicitDefEqProofs [*]
  · rintro ⟨fr, bs⟩ h
    simp -implicitDefEqProofs [h.1, h.2]
theorem law_SameMsg (a b : Msg) (hl : a.ids.length ≤ cap) : Den PP 34 [msgD a, msgD b] [] (.bool (decide (a = b))) [] := by
  have h1 := law_SameInts a.ids b.ids hl
  simp only [intsD] at h1
  refine den_of [] [] is_gimmallaw0_SameMsg ?_
  simp -implicitDefEqProofs [c_gimmallaw0_SameMsg, msgD, Msg.row, intsD, EQS]
  repeat' ((first | refine callThen_of (by first | exact h1) ?_ | with_reducible refine gOps_dec (fun _ => ?_) (fun _ => ?_) | with_reducible refine gOps_ndec (fun _ => ?_) (fun _ => ?_) | (with_reducible refine gOps_and (fun hq => ?_) (fun hq => ?_) <;> (try simp at hq)) | (with_reducible refine gOps_or (fun hq => ?_) (fun hq => ?_) <;> (try simp at hq)) | (with_reducible refine gOps_not (fun hq => ?_) (fun hq => ?_) <;> (try simp at hq)) | (with_reducible refine gOps_split (fun hq => ?_) (fun hq => ?_) <;> (try simp at hq)) | with_reducible refine condC_dec (fun _ => ?_) (fun _ => ?_) | with_reducible refine condC_ndec (fun _ => ?_) (fun _ => ?_) | (with_reducible refine condC_and (fun hq => ?_) (fun hq => ?_) <;> (try simp at hq)) | (with_reducible refine condC_or (fun hq => ?_) (fun hq => ?_) <;> (try simp at hq)) | (with_reducible refine condC_not (fun hq => ?_) (fun hq => ?_) <;> (try simp at hq)) | (with_reducible refine condC_split (fun hq => ?_) (fun hq => ?_) <;> (try simp at hq)) | refine appK2_if (by omega) ?_ | refine pureV_if (by omega) ?_) <;> simp -implicitDefEqProofs [*, EQS])
  all_goals (obtain ⟨_, _, _, _, _, ⟨_, _, _, _, _⟩, _⟩ := a; obtain ⟨_, _, _, _, _, ⟨_, _, _, _, _⟩, _⟩ := b; grind)
theorem law_SameMsgs (xs ys : List Msg) (hl : xs.length ≤ cap16) (hi : ∀ m ∈ xs, m.ids.length ≤ cap) : Den PP 31 [msgsD xs, msgsD ys] [] (.bool (decide (xs = ys))) [] := by
  refine den_of [] [] is_gimmallaw0_SameMsgs ?_
  simp -implicitDefEqProofs [c_gimmallaw0_SameMsgs, msgsD]
  refine condC_split (fun h => ?_) (fun h => ?_)
  · simp -implicitDefEqProofs
    grind
  have hlen : xs.length = ys.length := by simp at h; omega
  simp -implicitDefEqProofs
  refine list_rule xs (fun i rest => fun ⟨fr, bs⟩ => bs = [] ∧ fr 0 = .sl (xs.map Msg.row) xs.length ∧ fr 1 = .sl (ys.map Msg.row) ys.length ∧ fr 5 = .int .i64 i ∧ (rest = ys.drop i ↔ xs = ys))
    (fun ⟨fr, bs⟩ => bs = [] ∧ xs = ys) (fun ⟨fr, bs⟩ => fr 4 = .bool false ∧ ¬ xs = ys) c_gimmallaw0_SameMsgs_L0.eq_1 ?_ ?_ ?_ ?_ ?_
  · exact ⟨rfl, rfl, rfl, rfl, by simp⟩
  · rintro i ⟨fr, bs⟩ hi ⟨rfl, h0, h1, h5, he⟩
    simp -implicitDefEqProofs [*]
    grind
  · rintro i a rest ⟨fr, bs⟩ hlt hget hg hd hd2 ⟨rfl, h0, h1, h5, he⟩
    have hlt' : (i : Int) < xs.length := by omega
    have hlt2 : i < ys.length := by omega
    have hlt3 : (i : Int) < ys.length := by omega
    have hw := wrap_next (n := i) (by unfold cap16 at hl; omega)
    rw [List.drop_eq_getElem_cons hlt2] at he
    generalize hy : ys[i] = b at he
    obtain ⟨e, hab⟩ : ∃ e, decide (a = b) = e := ⟨_, rfl⟩
    have c1 := law_SameMsg a b (hi a (List.mem_of_getElem? hget))
    rw [hab] at c1
    simp only [msgD, Msg.row] at c1
    simp -implicitDefEqProofs [h0, h1, h5, hlt, hlt', hlt2, hlt3, hget, hg, hy, Msg.row, EQS]
    repeat' ((first | refine callThen_of (by first | exact c1) ?_ | with_reducible refine gOps_dec (fun _ => ?_) (fun _ => ?_) | with_reducible refine gOps_ndec (fun _ => ?_) (fun _ => ?_) | (with_reducible refine gOps_and (fun hq => ?_) (fun hq => ?_) <;> (try simp at hq)) | (with_reducible refine gOps_or (fun hq => ?_) (fun hq => ?_) <;> (try simp at hq)) | (with_reducible refine gOps_not (fun hq => ?_) (fun hq => ?_) <;> (try simp at hq)) | (with_reducible refine gOps_split (fun hq => ?_) (fun hq => ?_) <;> (try simp at hq)) | with_reducible refine condC_dec (fun _ => ?_) (fun _ => ?_) | with_reducible refine condC_ndec (fun _ => ?_) (fun _ => ?_) | (with_reducible refine condC_and (fun hq => ?_) (fun hq => ?_) <;> (try simp at hq)) | (with_reducible refine condC_or (fun hq => ?_) (fun hq => ?_) <;> (try simp at hq)) | (with_reducible refine condC_not (fun hq => ?_) (fun hq => ?_) <;> (try simp at hq)) | (with_reducible refine condC_split (fun hq => ?_) (fun hq => ?_) <;> (try simp at hq)) | refine appK2_if (by omega) ?_ | refine pureV_if (by omega) ?_) <;> simp -implicitDefEqProofs [*, EQS, hw, Msg.row])
    all_goals (by_cases hq : a = b <;> grind)
  · rintro ⟨fr, bs⟩ ⟨rfl, h6⟩
    simp -implicitDefEqProofs [*]
  · rintro ⟨fr, bs⟩ h
    simp -implicitDefEqProofs [h.1, h.2]
theorem law_SameNode (x y : Node) (hs : x.small) : Den PP 30 [nodeD x, nodeD y] [] (.bool (decide (x = y))) [] := by
  have c1 := law_SameView x.view y.view hs.1
  have c2 := law_SameItems x.items y.items (by have := hs.2.1; unfold cap; omega)
  have c3 := law_SameTolds x.log y.log (by have := hs.2.2; unfold cap; omega)
  simp only [viewD, View.cells, peersD, intsD, itemsD, toldsD] at c1 c2 c3
  refine den_of [] [] is_gimmallaw0_SameNode ?_
  simp -implicitDefEqProofs [c_gimmallaw0_SameNode, nodeD, Node.cells, peersD, intsD, itemsD, toldsD]
  refine gOps_split (fun h => ?_) (fun h => ?_)
  all_goals simp -implicitDefEqProofs [h]
  all_goals repeat' ((first | refine callThen_of (by first | exact c1 | exact c2 | exact c3) ?_ | with_reducible refine gOps_dec (fun _ => ?_) (fun _ => ?_) | with_reducible refine gOps_ndec (fun _ => ?_) (fun _ => ?_) | (with_reducible refine gOps_and (fun hq => ?_) (fun hq => ?_) <;> (try simp at hq)) | (with_reducible refine gOps_or (fun hq => ?_) (fun hq => ?_) <;> (try simp at hq)) | (with_reducible refine gOps_not (fun hq => ?_) (fun hq => ?_) <;> (try simp at hq)) | (with_reducible refine gOps_split (fun hq => ?_) (fun hq => ?_) <;> (try simp at hq)) | with_reducible refine condC_dec (fun _ => ?_) (fun _ => ?_) | with_reducible refine condC_ndec (fun _ => ?_) (fun _ => ?_) | (with_reducible refine condC_and (fun hq => ?_) (fun hq => ?_) <;> (try simp at hq)) | (with_reducible refine condC_or (fun hq => ?_) (fun hq => ?_) <;> (try simp at hq)) | (with_reducible refine condC_not (fun hq => ?_) (fun hq => ?_) <;> (try simp at hq)) | (with_reducible refine condC_split (fun hq => ?_) (fun hq => ?_) <;> (try simp at hq)) | refine appK2_if (by omega) ?_ | refine pureV_if (by omega) ?_) <;> simp -implicitDefEqProofs [*])
  all_goals (obtain ⟨_, _, _, _⟩ := x; obtain ⟨_, _, _, _⟩ := y; grind)
theorem law_CopyNode (x : Node) (hs : x.small) : Den PP 26 [nodeD x] [] (.agg [.bool x.up, .int .i64 x.view.id, .ref 0 0 x.view.peers.length, .ref 1 0 x.view.passive.length, .ref 2 0 x.items.length, .ref 3 0 x.log.length])
    [⟨x.view.peers.map Peer.row, 2, .mut⟩, ⟨x.view.passive.map irow, 1, .mut⟩, ⟨x.items.map Item.row, 5, .mut⟩, ⟨x.log.map Told.row, 3, .mut⟩] := by
  have c1 := law_CopyView x.view hs.1
  simp only [viewD, View.cells, peersD, intsD] at c1
  obtain ⟨⟨h1, h2⟩, h3, h4⟩ := hs
  unfold cap16 at h1
  unfold cap at h2
  refine den_of [5] [] is_gimmallaw0_CopyNode ?_
  simp -implicitDefEqProofs [c_gimmallaw0_CopyNode, nodeD, Node.cells, peersD, intsD, itemsD, toldsD]
  repeat' ((first | refine callThen_of (by first | exact c1) ?_ | with_reducible refine gOps_dec (fun _ => ?_) (fun _ => ?_) | with_reducible refine gOps_ndec (fun _ => ?_) (fun _ => ?_) | (with_reducible refine gOps_and (fun hq => ?_) (fun hq => ?_) <;> (try simp at hq)) | (with_reducible refine gOps_or (fun hq => ?_) (fun hq => ?_) <;> (try simp at hq)) | (with_reducible refine gOps_not (fun hq => ?_) (fun hq => ?_) <;> (try simp at hq)) | (with_reducible refine gOps_split (fun hq => ?_) (fun hq => ?_) <;> (try simp at hq)) | with_reducible refine condC_dec (fun _ => ?_) (fun _ => ?_) | with_reducible refine condC_ndec (fun _ => ?_) (fun _ => ?_) | (with_reducible refine condC_and (fun hq => ?_) (fun hq => ?_) <;> (try simp at hq)) | (with_reducible refine condC_or (fun hq => ?_) (fun hq => ?_) <;> (try simp at hq)) | (with_reducible refine condC_not (fun hq => ?_) (fun hq => ?_) <;> (try simp at hq)) | (with_reducible refine condC_split (fun hq => ?_) (fun hq => ?_) <;> (try simp at hq)) | refine appK2_if (by omega) ?_ | refine pureV_if (by omega) ?_) <;> simp -implicitDefEqProofs [*])
end Go.AM
/- AM: contracts: what the statements' helpers do with slices. -/
namespace Go.AM
set_option linter.unusedSimpArgs false
set_option linter.unusedVariables false
set_option maxRecDepth 8000
set_option maxHeartbeats 0
end Go.AM
/- AM: contracts: the document's best, its put; what a node takes. -/
namespace Go.AM
set_option linter.unusedSimpArgs false
set_option linter.unusedVariables false
set_option maxRecDepth 8000
set_option maxHeartbeats 0
def newerR (a b : Item) : Bool × Int := if verMay a.count a.writer && verMay b.count b.writer then (decide (b.count < a.count) || decide (a.count = b.count) && decide (b.writer < a.writer), 0) else (false, 300)
def bestR (a b : Item) : Item × Int := if itemMay a && (itemMay b && decide (a.key = b.key)) then (bestI a b, 0) else (zeroItem, 400)
end Go.AM
/- AM: contracts: the best of two, a store's item, its put. -/
namespace Go.AM
set_option linter.unusedSimpArgs false
set_option linter.unusedVariables false
set_option maxRecDepth 8000
set_option maxHeartbeats 0
theorem version_Newer (a b : Item) : Den PP 230 [.agg [.int .i64 a.count, .int .i64 a.writer], .agg [.int .i64 b.count, .int .i64 b.writer]] [] (.tup [.bool (newerR a b).1, .int .i64 (newerR a b).2]) [] := by
  refine den_of [] [] is_version_Newer ?_
  simp -implicitDefEqProofs [c_version_Newer]
  repeat' ((first | refine callThen_of (by first | exact version_May _ _) ?_ | with_reducible refine gOps_dec (fun _ => ?_) (fun _ => ?_) | with_reducible refine gOps_ndec (fun _ => ?_) (fun _ => ?_) | (with_reducible refine gOps_and (fun hq => ?_) (fun hq => ?_) <;> (try simp at hq)) | (with_reducible refine gOps_or (fun hq => ?_) (fun hq => ?_) <;> (try simp at hq)) | (with_reducible refine gOps_not (fun hq => ?_) (fun hq => ?_) <;> (try simp at hq)) | (with_reducible refine gOps_split (fun hq => ?_) (fun hq => ?_) <;> (try simp at hq)) | with_reducible refine condC_dec (fun _ => ?_) (fun _ => ?_) | with_reducible refine condC_ndec (fun _ => ?_) (fun _ => ?_) | (with_reducible refine condC_and (fun hq => ?_) (fun hq => ?_) <;> (try simp at hq)) | (with_reducible refine condC_or (fun hq => ?_) (fun hq => ?_) <;> (try simp at hq)) | (with_reducible refine condC_not (fun hq => ?_) (fun hq => ?_) <;> (try simp at hq)) | (with_reducible refine condC_split (fun hq => ?_) (fun hq => ?_) <;> (try simp at hq)) | refine appK2_if (by omega) ?_ | refine pureV_if (by omega) ?_) <;> simp -implicitDefEqProofs [*, newerR])
theorem item_better (a b : Item) (ha : verMay a.count a.writer = true) (hb : verMay b.count b.writer = true) : Den PP 196 [.mem a.row, .mem b.row] [] (.bool (better a b)) [] := by
  have c1 := version_Newer a b
  simp only [newerR, ha, hb, Bool.and_self, if_true] at c1
  obtain ⟨ak, ac, aw, av, ag⟩ := a
  obtain ⟨bk, bc, bw, bv, bg⟩ := b
  simp only [Item.row, better] at c1 ⊢
  clear ha hb
  refine den_of [] [] is_item_better ?_
  by_cases h1 : ac = bc
  · subst h1
    by_cases h2 : aw = bw
    · subst h2
      clear c1
      cases ag <;> cases bg
      all_goals simp -implicitDefEqProofs [c_item_better, EQS]
    · have h3 : decide (bw < aw) = (decide (bw < aw) || false) := by simp
      simp -implicitDefEqProofs [c_item_better, EQS, h2]
      simp at c1
      refine callThen_of c1 ?_
      simp -implicitDefEqProofs [EQS, h2]
  · simp -implicitDefEqProofs [c_item_better, EQS, h1]
    simp [h1] at c1
    refine callThen_of c1 ?_
    simp -implicitDefEqProofs [EQS, h1]
theorem item_Best (a b : Item) : Den PP 127 [.agg a.row, .agg b.row] [] (.tup [.agg (bestR a b).1.row, .int .i64 (bestR a b).2]) [] := by
  have c1 := item_May a
  have c2 := item_May b
  have c3 := fun h1 h2 => item_better a b h1 h2
  have hv : itemMay a = true → verMay a.count a.writer = true := by
    intro h; simp only [itemMay, Bool.and_eq_true] at h; exact h.1.2
  have hw : itemMay b = true → verMay b.count b.writer = true := by
    intro h; simp only [itemMay, Bool.and_eq_true] at h; exact h.1.2
  have hbr : bestR a b = if itemMay a && (itemMay b && decide (a.key = b.key)) then (bestI a b, 0) else (zeroItem, 400) := rfl
  obtain ⟨A, hA⟩ : ∃ A, itemMay a = A := ⟨_, rfl⟩
  obtain ⟨B, hB⟩ : ∃ B, itemMay b = B := ⟨_, rfl⟩
  rw [hA] at c1 hv hbr
  rw [hB] at c2 hw hbr
  obtain ⟨r, hr⟩ : ∃ r, bestR a b = r := ⟨_, rfl⟩
  rw [hr] at hbr ⊢
  unfold bestI at hbr
  obtain ⟨q, hq⟩ : ∃ q, better a b = q := ⟨_, rfl⟩
  rw [hq] at c3 hbr
  obtain ⟨ak, ac, aw, av, ag⟩ := a
  obtain ⟨bk, bc, bw, bv, bg⟩ := b
  simp only [Item.row] at c1 c2 c3 hv hw hbr ⊢
  clear hA hB hr hq
  refine den_of [] [] is_item_Best ?_
  cases A <;> cases B
  case true.true =>
    have c3' := c3 (hv rfl) (hw rfl)
    clear c3 hv hw
    by_cases hk : ak = bk
    · subst hk
      cases q
      all_goals
        simp at hbr
        subst hbr
        simp -implicitDefEqProofs [c_item_Best]
        repeat' ((first | refine callThen_of (by first | exact c1 | exact c2 | exact c3') ?_ | with_reducible refine gOps_dec (fun _ => ?_) (fun _ => ?_) | with_reducible refine gOps_ndec (fun _ => ?_) (fun _ => ?_) | (with_reducible refine gOps_and (fun hq => ?_) (fun hq => ?_) <;> (try simp at hq)) | (with_reducible refine gOps_or (fun hq => ?_) (fun hq => ?_) <;> (try simp at hq)) | (with_reducible refine gOps_not (fun hq => ?_) (fun hq => ?_) <;> (try simp at hq)) | (with_reducible refine gOps_split (fun hq => ?_) (fun hq => ?_) <;> (try simp at hq)) | with_reducible refine condC_dec (fun _ => ?_) (fun _ => ?_) | with_reducible refine condC_ndec (fun _ => ?_) (fun _ => ?_) | (with_reducible refine condC_and (fun hq => ?_) (fun hq => ?_) <;> (try simp at hq)) | (with_reducible refine condC_or (fun hq => ?_) (fun hq => ?_) <;> (try simp at hq)) | (with_reducible refine condC_not (fun hq => ?_) (fun hq => ?_) <;> (try simp at hq)) | (with_reducible refine condC_split (fun hq => ?_) (fun hq => ?_) <;> (try simp at hq)) | refine appK2_if (by omega) ?_ | refine pureV_if (by omega) ?_) <;> simp -implicitDefEqProofs [*])
    · simp [hk] at hbr
      subst hbr
      simp -implicitDefEqProofs [c_item_Best, zeroItem]
      repeat' ((first | refine callThen_of (by first | exact c1 | exact c2) ?_ | with_reducible refine gOps_dec (fun _ => ?_) (fun _ => ?_) | with_reducible refine gOps_ndec (fun _ => ?_) (fun _ => ?_) | (with_reducible refine gOps_and (fun hq => ?_) (fun hq => ?_) <;> (try simp at hq)) | (with_reducible refine gOps_or (fun hq => ?_) (fun hq => ?_) <;> (try simp at hq)) | (with_reducible refine gOps_not (fun hq => ?_) (fun hq => ?_) <;> (try simp at hq)) | (with_reducible refine gOps_split (fun hq => ?_) (fun hq => ?_) <;> (try simp at hq)) | with_reducible refine condC_dec (fun _ => ?_) (fun _ => ?_) | with_reducible refine condC_ndec (fun _ => ?_) (fun _ => ?_) | (with_reducible refine condC_and (fun hq => ?_) (fun hq => ?_) <;> (try simp at hq)) | (with_reducible refine condC_or (fun hq => ?_) (fun hq => ?_) <;> (try simp at hq)) | (with_reducible refine condC_not (fun hq => ?_) (fun hq => ?_) <;> (try simp at hq)) | (with_reducible refine condC_split (fun hq => ?_) (fun hq => ?_) <;> (try simp at hq)) | refine appK2_if (by omega) ?_ | refine pureV_if (by omega) ?_) <;> simp -implicitDefEqProofs [*, hk])
  all_goals
    clear c3 hv hw
    simp at hbr
    subst hbr
    simp -implicitDefEqProofs [c_item_Best, zeroItem]
    repeat' ((first | refine callThen_of (by first | exact c1 | exact c2) ?_ | with_reducible refine gOps_dec (fun _ => ?_) (fun _ => ?_) | with_reducible refine gOps_ndec (fun _ => ?_) (fun _ => ?_) | (with_reducible refine gOps_and (fun hq => ?_) (fun hq => ?_) <;> (try simp at hq)) | (with_reducible refine gOps_or (fun hq => ?_) (fun hq => ?_) <;> (try simp at hq)) | (with_reducible refine gOps_not (fun hq => ?_) (fun hq => ?_) <;> (try simp at hq)) | (with_reducible refine gOps_split (fun hq => ?_) (fun hq => ?_) <;> (try simp at hq)) | with_reducible refine condC_dec (fun _ => ?_) (fun _ => ?_) | with_reducible refine condC_ndec (fun _ => ?_) (fun _ => ?_) | (with_reducible refine condC_and (fun hq => ?_) (fun hq => ?_) <;> (try simp at hq)) | (with_reducible refine condC_or (fun hq => ?_) (fun hq => ?_) <;> (try simp at hq)) | (with_reducible refine condC_not (fun hq => ?_) (fun hq => ?_) <;> (try simp at hq)) | (with_reducible refine condC_split (fun hq => ?_) (fun hq => ?_) <;> (try simp at hq)) | refine appK2_if (by omega) ?_ | refine pureV_if (by omega) ?_) <;> simp -implicitDefEqProofs [*])
theorem store_byKey (x : Item) (k : Int) : Den PP 126 [.agg x.row, .int .i64 k] [] (.int .i64 (keyC k x)) [] := by
  refine den_of [] [] is_store_byKey ?_
  simp -implicitDefEqProofs [c_store_byKey, Item.row, keyC]
  repeat' ((first | refine callThen_of (by first | exact cmp_Compare _ _) ?_ | with_reducible refine gOps_dec (fun _ => ?_) (fun _ => ?_) | with_reducible refine gOps_ndec (fun _ => ?_) (fun _ => ?_) | (with_reducible refine gOps_and (fun hq => ?_) (fun hq => ?_) <;> (try simp at hq)) | (with_reducible refine gOps_or (fun hq => ?_) (fun hq => ?_) <;> (try simp at hq)) | (with_reducible refine gOps_not (fun hq => ?_) (fun hq => ?_) <;> (try simp at hq)) | (with_reducible refine gOps_split (fun hq => ?_) (fun hq => ?_) <;> (try simp at hq)) | with_reducible refine condC_dec (fun _ => ?_) (fun _ => ?_) | with_reducible refine condC_ndec (fun _ => ?_) (fun _ => ?_) | (with_reducible refine condC_and (fun hq => ?_) (fun hq => ?_) <;> (try simp at hq)) | (with_reducible refine condC_or (fun hq => ?_) (fun hq => ?_) <;> (try simp at hq)) | (with_reducible refine condC_not (fun hq => ?_) (fun hq => ?_) <;> (try simp at hq)) | (with_reducible refine condC_split (fun hq => ?_) (fun hq => ?_) <;> (try simp at hq)) | refine appK2_if (by omega) ?_ | refine pureV_if (by omega) ?_) <;> simp -implicitDefEqProofs [*])
theorem store_Get (is : List Item) (k : Int) (hl : is.length ≤ cap16) : Den PP 130 [itemsD is, .int .i64 k] [] (.tup [.agg (getR is k).1.row, .bool (getR is k).2]) [] := by
  have c1 := store_May is hl
  have c2 := fun h => bsearch_Item is 126 k (keyC k) (fun x _ => store_byKey x k) (by unfold cap; unfold cap16 at hl; omega) h
  simp only [itemsD] at c1
  refine den_of [] [] is_store_Get ?_
  simp -implicitDefEqProofs [c_store_Get, itemsD]
  refine callThen_of c1 ?_
  simp -implicitDefEqProofs
  refine condC_not (fun h1 => ?_) (fun h1 => ?_)
  rotate_left
  · simp -implicitDefEqProofs [h1, getR, zeroItem, Item.row]
  obtain ⟨hm, hr, h16⟩ := (storeMay_iff is).1 h1
  have hg := getS_at hr k
  have hat := fun h => atC_true (c := keyC k) (xs := is) h
  have c3 := c2 (mono_key hr k)
  clear c2 c1
  generalize atC (keyC k) is = A at *
  generalize posC (keyC k) is = p at *
  simp -implicitDefEqProofs [h1]
  refine callThen_of c3 ?_
  cases A with
  | false =>
    simp -implicitDefEqProofs [h1, hg, getR, zeroItem, Item.row]
  | true =>
    obtain ⟨hlt, x, hx, hx0⟩ := hat rfl
    have hlt' : (p : Int) < is.length := by omega
    simp at hg
    rw [hx] at hg
    have hxr : (is.map Item.row)[p]? = some x.row := by simp [hx]
    have hx2 : is[p] = x := by simpa [hlt] using hx
    simp -implicitDefEqProofs [h1, hg, getR, hlt', hlt, hx2, Item.row]
end Go.AM
/- AM: contracts: a store's put. -/
namespace Go.AM
set_option linter.unusedSimpArgs false
set_option linter.unusedVariables false
set_option maxRecDepth 8000
set_option maxHeartbeats 0
theorem row_still (i : Item) : ∀ d ∈ i.row, d.still = true := by
  intro d hd
  simp [Item.row] at hd
  rcases hd with rfl | rfl | rfl | rfl | rfl <;> rfl
theorem store_Put (is : List Item) (x : Item) (hl : is.length ≤ cap16) : Den PP 43 [itemsD is, .agg x.row] [] (.tup [.ref 0 0 (putR is x).1.length, .int .i64 (putR is x).2]) [⟨(putR is x).1.map Item.row, 5, .mut⟩] := by
  have c1 := store_May is hl
  have c0 := item_May x
  have c2 := fun h : is.length ≤ 16 => clone_Item (is.map Item.row) (by intro r hr; obtain ⟨a, _, rfl⟩ := List.mem_map.1 hr; exact ⟨rfl, rfl⟩) (by simp; omega)
  have c3 := fun h => bsearch_Item is 126 x.key (keyC x.key) (fun y _ => store_byKey y x.key) (by unfold cap; unfold cap16 at hl; omega) h
  obtain ⟨r, hr⟩ : ∃ r, putR is x = r := ⟨_, rfl⟩
  have hr' := hr
  unfold putR at hr'
  rw [hr]
  clear hr
  simp only [itemsD, Item.row, List.length_map] at c0 c1 c2
  refine den_ofG [18, 26] [26] [26] [] (fun _ h => absurd h List.not_mem_nil) is_store_Put ?_
  simp -implicitDefEqProofs [c_store_Put, itemsD, Item.row]
  refine callThen_of c1 ?_
  simp -implicitDefEqProofs
  cases h1 : storeMay is with
  | false =>
    rw [h1] at hr'
    simp at hr'
    subst hr'
    simp -implicitDefEqProofs
  | true =>
  cases h2 : itemMay x with
  | false =>
    rw [h2] at hr' c0
    simp at hr'
    subst hr'
    simp -implicitDefEqProofs
    repeat' ((first | refine callThen_of (by first | exact c0) ?_ | with_reducible refine gOps_dec (fun _ => ?_) (fun _ => ?_) | with_reducible refine gOps_ndec (fun _ => ?_) (fun _ => ?_) | (with_reducible refine gOps_and (fun hq => ?_) (fun hq => ?_) <;> (try simp at hq)) | (with_reducible refine gOps_or (fun hq => ?_) (fun hq => ?_) <;> (try simp at hq)) | (with_reducible refine gOps_not (fun hq => ?_) (fun hq => ?_) <;> (try simp at hq)) | (with_reducible refine gOps_split (fun hq => ?_) (fun hq => ?_) <;> (try simp at hq)) | with_reducible refine condC_dec (fun _ => ?_) (fun _ => ?_) | with_reducible refine condC_ndec (fun _ => ?_) (fun _ => ?_) | (with_reducible refine condC_and (fun hq => ?_) (fun hq => ?_) <;> (try simp at hq)) | (with_reducible refine condC_or (fun hq => ?_) (fun hq => ?_) <;> (try simp at hq)) | (with_reducible refine condC_not (fun hq => ?_) (fun hq => ?_) <;> (try simp at hq)) | (with_reducible refine condC_split (fun hq => ?_) (fun hq => ?_) <;> (try simp at hq)) | refine appK2_if (by omega) ?_ | refine pureV_if (by omega) ?_) <;> simp -implicitDefEqProofs [*])
  | true =>
  obtain ⟨hm, hri, h16⟩ := (storeMay_iff is).1 h1
  rw [h1, h2] at hr'
  rw [h2] at c0
  have hlen := putS_length x is hri
  have hg := getS_at hri x.key
  obtain ⟨hp1, hp2⟩ := putS_at x is
  have hat := fun h => atC_true (c := keyC x.key) (xs := is) h
  have hple := posC_le (keyC x.key) is
  have c4 := c3 (mono_key hri x.key)
  clear c3
  generalize atC (keyC x.key) is = A at *
  generalize posC (keyC x.key) is = p at *
  simp -implicitDefEqProofs
  refine callThen_of c0 ?_
  simp -implicitDefEqProofs
  refine callThen_of (c2 h16) ?_
  simp -implicitDefEqProofs [downTo]
  refine callThen_of c4 ?_
  simp -implicitDefEqProofs [downTo]
  cases A with
  | true =>
    obtain ⟨hlt, y, hy, hy0⟩ := hat rfl
    have hmy := hm y (List.mem_of_getElem? hy)
    have hky : y.key = x.key := by simpa [keyC, cmpI_eq] using hy0
    have c5 := item_Best y x
    have hbr : bestR y x = (bestI y x, 0) := by simp [bestR, hmy, h2, hky]
    have hput := hp1 y hy rfl
    rw [hbr] at c5
    have hr2 : r = (is.set p (bestI y x), 0) := by
      rw [← hr', hput]
      simp [h16]
    subst hr2
    have hlt' : (p : Int) < is.length := by omega
    have hy2 : is[p] = y := by simpa [hlt] using hy
    generalize bestI y x = b at *
    simp only [Item.row] at c5
    clear hr' hput hbr hg hp1 hp2 hat hlen c4 hm hri
    simp -implicitDefEqProofs [hlt, hlt', hy2, Item.row]
    refine callThen_of c5 ?_
    simp -implicitDefEqProofs [hlt, hlt', hy2, Item.row]
  | false =>
    have hput := hp2 rfl
    simp at hg
    rw [hg] at hlen
    simp at hlen
    rw [hput] at hr' hlen
    by_cases h5 : is.length = 16
    · have hr2 : r = ([], 501) := by
        rw [← hr']
        simp [h5]
      subst hr2
      clear hr' hput hg hp1 hp2 hat hlen c4 hm hri
      simp -implicitDefEqProofs [h5]
    · have hr2 : r = (insL is p x, 0) := by
        rw [← hr']
        simp
        omega
      subst hr2
      clear hr' hput hg hp1 hp2 hat hlen c4 hm hri
      have h5' : ¬ (is.length : Int) = 16 := by omega
      simp -implicitDefEqProofs [h5']
      refine giveThen_of rfl (by simp) (by simp) (by simp) (insert_Item (is.map Item.row) x.row p (by simp [Item.row]) (StillR.map _ _ fun a _ => row_still a) (by intro r hr; rw [List.mem_singleton.1 hr]; exact ⟨rfl, rfl⟩) (row_still x) (by simpa using hple) (by simp; omega)) ?_
      rw [← insL_map]
      simp -implicitDefEqProofs [downTo]
end Go.AM
/- AM: contracts: what chapter 9's statements build on. -/
namespace Go.AM
set_option linter.unusedSimpArgs false
set_option linter.unusedVariables false
set_option maxRecDepth 8000
set_option maxHeartbeats 0
end Go.AM
/- AM: contracts: the document's nodes and sharing; chapter 18's helpers. -/
namespace Go.AM
set_option linter.unusedSimpArgs false
set_option linter.unusedVariables false
set_option maxRecDepth 8000
set_option maxHeartbeats 0
end Go.AM
/- AM: what is handed in, told. -/
namespace Go.AM
set_option linter.unusedSimpArgs false
set_option linter.unusedVariables false
set_option maxRecDepth 8000
theorem tell_int {n : Nat} {cs : List D} (h : Tell TT (n + 1) 3 cs) : ∃ x, cs = [.int .i64 x] ∧ in64 x := by
  simp [Tell] at h
  obtain ⟨x, rfl, hx⟩ := h
  exact ⟨x, rfl, wf64 hx⟩
theorem tell_bool {n : Nat} {cs : List D} (h : Tell TT (n + 1) 4 cs) : ∃ x, cs = [.bool x] := by
  simpa [Tell] using h
theorem tell_ints {n : Nat} {cs : List D} (h : Tell TT (n + 2) 36 cs) : ∃ xs : List Int, cs = [intsD xs] ∧ xs.length * 8 ≤ 140737488351232 ∧ ∀ x ∈ xs, in64 x := by
  unfold Tell at h
  simp at h
  obtain ⟨rows, rfl, hl, hr⟩ := h
  obtain ⟨xs, rfl, hx⟩ := rows_of (f := irow) (Q := in64) rows fun r h => by
    obtain ⟨x, rfl, hx⟩ := tell_int (hr r h)
    exact ⟨x, rfl, hx⟩
  exact ⟨xs, by simp [intsD], by simpa using hl, hx⟩
theorem tell_Peer {n : Nat} {cs : List D} (h : Tell TT (n + 2) 204 cs) : ∃ p : Peer, cs = p.row ∧ in64 p.id ∧ in64 p.missed := by
  unfold Tell at h
  simp [Tell.TellFs] at h
  obtain ⟨a, b, rfl, h1, h2⟩ := h
  obtain ⟨x, rfl, hx⟩ := tell_int h1
  obtain ⟨y, rfl, hy⟩ := tell_int h2
  exact ⟨⟨x, y⟩, rfl, hx, hy⟩
theorem tell_peers {n : Nat} {cs : List D} (h : Tell TT (n + 3) 35 cs) : ∃ ps : List Peer, cs = [peersD ps] ∧ ps.length * 16 ≤ 140737488351232 ∧ ∀ p ∈ ps, in64 p.id ∧ in64 p.missed := by
  unfold Tell at h
  simp at h
  obtain ⟨rows, rfl, hl, hr⟩ := h
  obtain ⟨xs, rfl, hx⟩ := rows_of (f := Peer.row) (Q := fun p => in64 p.id ∧ in64 p.missed) rows fun r h => tell_Peer (hr r h)
  exact ⟨xs, by simp [peersD], by simpa using hl, hx⟩
def View.tame (v : View) : Prop := v.peers.length * 16 ≤ 140737488351232 ∧ v.passive.length * 8 ≤ 140737488351232 ∧ in64 v.id ∧ (∀ p ∈ v.peers, in64 p.id ∧ in64 p.missed) ∧ ∀ x ∈ v.passive, in64 x
theorem View.tame.small {v : View} (h : v.tame) : v.small := by
  obtain ⟨h1, h2, _⟩ := h
  unfold View.small cap16 cap
  omega
theorem tell_View {n : Nat} {cs : List D} (h : Tell TT (n + 4) 38 cs) : ∃ v : View, cs = v.cells ∧ v.tame := by
  unfold Tell at h
  simp [Tell.TellFs] at h
  obtain ⟨a, r, rfl, h1, b, c, rfl, h2, h3⟩ := h
  obtain ⟨x, rfl, hx⟩ := tell_int h1
  obtain ⟨ps, rfl, hp, hp2⟩ := tell_peers h2
  obtain ⟨xs, rfl, hq, hq2⟩ := tell_ints h3
  exact ⟨⟨x, ps, xs⟩, rfl, hp, hq, hx, hp2, hq2⟩
theorem tell_Version {n : Nat} {cs : List D} (h : Tell TT (n + 2) 44 cs) : ∃ c w : Int, cs = [.int .i64 c, .int .i64 w] ∧ in64 c ∧ in64 w := by
  unfold Tell at h
  simp [Tell.TellFs] at h
  obtain ⟨a, b, rfl, h1, h2⟩ := h
  obtain ⟨x, rfl, hx⟩ := tell_int h1
  obtain ⟨y, rfl, hy⟩ := tell_int h2
  exact ⟨x, y, rfl, hx, hy⟩
def Item.tame (i : Item) : Prop := in64 i.key ∧ in64 i.count ∧ in64 i.writer ∧ in64 i.value
theorem tell_Item {n : Nat} {cs : List D} (h : Tell TT (n + 3) 46 cs) : ∃ i : Item, cs = i.row ∧ i.tame := by
  unfold Tell at h
  simp [Tell.TellFs] at h
  obtain ⟨a, r1, rfl, h1, b, r2, rfl, h2, c, d, rfl, h3, h4⟩ := h
  obtain ⟨x, rfl, hx⟩ := tell_int h1
  obtain ⟨y, z, rfl, hy, hz⟩ := tell_Version h2
  obtain ⟨u, rfl, hu⟩ := tell_int h3
  obtain ⟨g, rfl⟩ := tell_bool h4
  exact ⟨⟨x, y, z, u, g⟩, rfl, hx, hy, hz, hu⟩
theorem tell_items {n : Nat} {cs : List D} (h : Tell TT (n + 4) 39 cs) : ∃ is : List Item, cs = [itemsD is] ∧ is.length * 40 ≤ 140737488351232 ∧ ∀ i ∈ is, i.tame := by
  unfold Tell at h
  simp at h
  obtain ⟨rows, rfl, hl, hr⟩ := h
  obtain ⟨xs, rfl, hx⟩ := rows_of (f := Item.row) (Q := Item.tame) rows fun r h => tell_Item (hr r h)
  exact ⟨xs, by simp [itemsD], by simpa using hl, hx⟩
theorem tell_Told {n : Nat} {cs : List D} (h : Tell TT (n + 2) 61 cs) : ∃ t : Told, cs = t.row ∧ in64 t.key ∧ in64 t.value := by
  unfold Tell at h
  simp [Tell.TellFs] at h
  obtain ⟨a, r1, rfl, h1, b, c, rfl, h2, h3⟩ := h
  obtain ⟨x, rfl, hx⟩ := tell_int h1
  obtain ⟨g, rfl⟩ := tell_bool h2
  obtain ⟨u, rfl, hu⟩ := tell_int h3
  exact ⟨⟨x, g, u⟩, rfl, hx, hu⟩
theorem tell_tolds {n : Nat} {cs : List D} (h : Tell TT (n + 3) 40 cs) : ∃ ts : List Told, cs = [toldsD ts] ∧ ts.length * 24 ≤ 140737488351232 ∧ ∀ t ∈ ts, in64 t.key ∧ in64 t.value := by
  unfold Tell at h
  simp at h
  obtain ⟨rows, rfl, hl, hr⟩ := h
  obtain ⟨xs, rfl, hx⟩ := rows_of (f := Told.row) (Q := fun t => in64 t.key ∧ in64 t.value) rows fun r h => tell_Told (hr r h)
  exact ⟨xs, by simp [toldsD], by simpa using hl, hx⟩
def Node.tame (x : Node) : Prop := x.view.tame ∧ x.items.length * 40 ≤ 140737488351232 ∧ (∀ i ∈ x.items, i.tame) ∧ x.log.length * 24 ≤ 140737488351232 ∧ ∀ t ∈ x.log, in64 t.key ∧ in64 t.value
theorem Node.tame.small {x : Node} (h : x.tame) : x.small := ⟨h.1.small, h.2.1, h.2.2.2.1⟩
theorem tell_Node {n : Nat} {cs : List D} (h : Tell TT (n + 5) 42 cs) : ∃ x : Node, cs = x.cells ∧ x.tame := by
  unfold Tell at h
  simp [Tell.TellFs] at h
  obtain ⟨a, r1, rfl, h1, b, r2, rfl, h2, c, d, rfl, h3, h4⟩ := h
  obtain ⟨u, rfl⟩ := tell_bool h1
  obtain ⟨v, rfl, hv⟩ := tell_View h2
  obtain ⟨is, rfl, h5, h6⟩ := tell_items h3
  obtain ⟨ts, rfl, h7, h8⟩ := tell_tolds h4
  exact ⟨⟨u, v, is, ts⟩, rfl, hv, h5, h6, h7, h8⟩
theorem arg_Node {n : Nat} {d : D} (h : TellArg TT (n + 5) 42 d) : ∃ x : Node, d = nodeD x ∧ x.tame := by
  simp [TellArg] at h
  obtain ⟨cs, rfl, h⟩ := h
  obtain ⟨v, rfl, hv⟩ := tell_Node h
  exact ⟨v, rfl, hv⟩
theorem arg_Item {n : Nat} {d : D} (h : TellArg TT (n + 3) 46 d) : ∃ x : Item, d = .agg x.row ∧ x.tame := by
  simp [TellArg] at h
  obtain ⟨cs, rfl, h⟩ := h
  obtain ⟨v, rfl, hv⟩ := tell_Item h
  exact ⟨v, rfl, hv⟩
theorem arg_items {n : Nat} {d : D} (h : TellArg TT (n + 4) 39 d) : ∃ x : List Item, d = itemsD x ∧ x.length * 40 ≤ 140737488351232 ∧ ∀ i ∈ x, i.tame := by
  simp [TellArg] at h
  obtain ⟨xs, hx, h2⟩ := tell_items h
  simp at hx
  exact ⟨xs, hx, h2⟩
theorem arg_ints {n : Nat} {d : D} (h : TellArg TT (n + 2) 36 d) : ∃ x : List Int, d = intsD x ∧ x.length * 8 ≤ 140737488351232 ∧ ∀ i ∈ x, in64 i := by
  simp [TellArg] at h
  obtain ⟨xs, hx, h2⟩ := tell_ints h
  simp at hx
  exact ⟨xs, hx, h2⟩
theorem arg_peers {n : Nat} {d : D} (h : TellArg TT (n + 3) 35 d) : ∃ x : List Peer, d = peersD x ∧ x.length * 16 ≤ 140737488351232 ∧ ∀ p ∈ x, in64 p.id ∧ in64 p.missed := by
  simp [TellArg] at h
  obtain ⟨xs, hx, h2⟩ := tell_peers h
  simp at hx
  exact ⟨xs, hx, h2⟩
theorem arg_bool {n : Nat} {d : D} (h : TellArg TT (n + 1) 4 d) : ∃ x, d = .bool x ∧ True := by
  simp [TellArg] at h
  obtain ⟨x, hx⟩ := tell_bool h
  simp at hx
  exact ⟨x, hx, trivial⟩
theorem arg_int {n : Nat} {d : D} (h : TellArg TT (n + 1) 3 d) : ∃ x, d = .int .i64 x ∧ in64 x := by
  simp [TellArg] at h
  obtain ⟨x, hx, h2⟩ := tell_int h
  simp at hx
  exact ⟨x, hx, h2⟩
theorem arg_View {n : Nat} {d : D} (h : TellArg TT (n + 4) 38 d) : ∃ v : View, d = viewD v ∧ v.tame := by
  simp [TellArg] at h
  obtain ⟨cs, rfl, h⟩ := h
  obtain ⟨v, rfl, hv⟩ := tell_View h
  exact ⟨v, rfl, hv⟩
end Go.AM
/- Plain law: stores: put twice, in another row. -/
namespace Go.AM
set_option linter.unusedSimpArgs false
set_option linter.unusedVariables false

end Go.AM
namespace Go.AM
end Go.AM
/- AM: contracts: a node is copied, takes an item. -/
namespace Go.AM
set_option linter.unusedSimpArgs false
set_option linter.unusedVariables false
set_option maxRecDepth 8000
set_option maxHeartbeats 0
theorem fit_of {α : Type} {f : α → List D} {n : Nat} (h : ∀ a, (f a).length = n ∧ (f a).all D.isCell = true) (xs : List α) : Fits n (xs.map f) := by
  intro r hr
  obtain ⟨a, _, rfl⟩ := List.mem_map.1 hr
  exact h a
theorem view_Copy (v : View) (hs : v.small) : Den PP 110 [viewD v] [] (.agg [.int .i64 v.id, .ref 0 0 v.peers.length, .ref 1 0 v.passive.length]) [⟨v.peers.map Peer.row, 2, .mut⟩, ⟨v.passive.map irow, 1, .mut⟩] := by
  obtain ⟨h1, h2⟩ := hs
  unfold cap16 at h1
  unfold cap at h2
  have c1 := clone_Peer (v.peers.map Peer.row) (fit_of (f := Peer.row) (n := 2) (fun _ => ⟨rfl, rfl⟩) _) (by simp; omega)
  have c2 := clone_int (v.passive.map irow) (fit_of (f := irow) (n := 1) (fun _ => ⟨rfl, rfl⟩) _) (by simp; omega)
  simp only [List.length_map] at c1 c2
  refine den_of [5, 8] [] is_view_Copy ?_
  simp -implicitDefEqProofs [c_view_Copy, viewD, View.cells, peersD, intsD]
  refine callThen_of c1 ?_
  simp -implicitDefEqProofs [downTo]
  refine callThen_of c2 ?_
  simp -implicitDefEqProofs [downTo]
def copyD (x : Node) : D := .agg [.bool x.up, .int .i64 x.view.id, .ref 0 0 x.view.peers.length, .ref 1 0 x.view.passive.length, .ref 2 0 x.items.length, .ref 3 0 x.log.length]
def nodeB (x : Node) : List Blk := [⟨x.view.peers.map Peer.row, 2, .mut⟩, ⟨x.view.passive.map irow, 1, .mut⟩, ⟨x.items.map Item.row, 5, .mut⟩, ⟨x.log.map Told.row, 3, .mut⟩]
theorem node_Copy (x : Node) (hs : x.small) : Den PP 86 [nodeD x] [] (copyD x) (nodeB x) := by
  have c1 := view_Copy x.view hs.1
  obtain ⟨⟨h1, h2⟩, h3, h4⟩ := hs
  unfold cap16 at h1
  unfold cap at h2
  have c2 := clone_Item (x.items.map Item.row) (fit_of (f := Item.row) (n := 5) (fun _ => ⟨rfl, rfl⟩) _) (by simp; omega)
  have c3 := clone_Told (x.log.map Told.row) (fit_of (f := Told.row) (n := 3) (fun _ => ⟨rfl, rfl⟩) _) (by simp; omega)
  simp only [List.length_map, viewD, View.cells, peersD, intsD] at c1 c2 c3
  unfold copyD nodeB
  refine den_of [5, 8, 11] [] is_node_Copy ?_
  simp -implicitDefEqProofs [c_node_Copy, nodeD, Node.cells, peersD, intsD, itemsD, toldsD]
  refine callThen_of c1 ?_
  simp -implicitDefEqProofs [downTo]
  refine callThen_of c2 ?_
  simp -implicitDefEqProofs [downTo]
  refine callThen_of c3 ?_
  simp -implicitDefEqProofs [downTo]
def takeI (x : Node) (i : Item) : Node := if (putR x.items i).2 = 0 then { x with items := (putR x.items i).1 } else x
theorem take_Item (x : Node) (i : Item) (hs : x.small) (h : (nodeUp x && itemMay i) = true) : Den PP 42 [nodeD x, .agg i.row] [] (.tup [copyD (takeI x i), .int .i64 0]) (nodeB (takeI x i)) := by
  have c1 := node_Up x hs
  have c2 := item_May i
  have c3 := node_Copy x hs
  have c4 := store_Put x.items i (by have := hs.2.1; unfold cap16; omega)
  rw [Bool.and_eq_true] at h
  obtain ⟨h1, h2⟩ := h
  rw [h1] at c1
  rw [h2] at c2
  unfold takeI
  generalize putR x.items i = r at *
  obtain ⟨is, e⟩ := r
  simp only [nodeD, Node.cells, peersD, intsD, itemsD, toldsD, Item.row, copyD, nodeB] at c1 c2 c3 c4 ⊢
  clear h1 h2
  refine den_of [19, 24] [] is_take_Item ?_
  by_cases he : e = 0
  · subst he
    simp -implicitDefEqProofs [c_take_Item, nodeD, Node.cells, peersD, intsD, itemsD, toldsD, Item.row]
    refine callThen_of c1 ?_
    simp -implicitDefEqProofs
    refine callThen_of c2 ?_
    simp -implicitDefEqProofs
    refine callThen_of c3 ?_
    simp -implicitDefEqProofs [downTo]
    refine callThen_of c4 ?_
    simp -implicitDefEqProofs [downTo]
  · simp -implicitDefEqProofs [c_take_Item, nodeD, Node.cells, peersD, intsD, itemsD, toldsD, Item.row]
    refine callThen_of c1 ?_
    simp -implicitDefEqProofs
    refine callThen_of c2 ?_
    simp -implicitDefEqProofs
    refine callThen_of c3 ?_
    simp -implicitDefEqProofs [downTo]
    refine callThen_of c4 ?_
    simp -implicitDefEqProofs [downTo, he]
end Go.AM
/- AM: contracts: the document's take; a node spoiled. -/
namespace Go.AM
set_option linter.unusedSimpArgs false
set_option linter.unusedVariables false
set_option maxRecDepth 8000
set_option maxHeartbeats 0
end Go.AM
/- AM: chapter 20's statements: Takes. -/
namespace Go.AM
set_option linter.unusedSimpArgs false
set_option linter.unusedVariables false
set_option maxRecDepth 8000
set_option maxHeartbeats 0
theorem nodeUp_parts {x : Node} (h : nodeUp x = true) : x.up = true ∧ viewMay x.view = true ∧ storeMay x.items = true ∧ x.log.length ≤ 64 ∧ x.log.any toldOdd = false := by
  simp only [nodeUp, nodeMay, Bool.and_eq_true, decide_eq_true_eq, Bool.not_eq_true'] at h
  exact ⟨h.1, h.2.1.1.1.2, h.2.1.1.2, h.2.1.2, h.2.2⟩
theorem nodeUp_of {x : Node} (h1 : x.up = true) (h2 : viewMay x.view = true) (h3 : storeMay x.items = true) (h4 : x.log.length ≤ 64) (h5 : x.log.any toldOdd = false) : nodeUp x = true := by
  simp [nodeUp, nodeMay, h1, h2, h3, h4, h5]
theorem takeI_up {x : Node} {i : Item} (h : nodeUp x = true) : nodeUp (takeI x i) = true := by
  obtain ⟨h1, h2, h3, h4, h5⟩ := nodeUp_parts h
  unfold takeI
  split
  · rename_i h6
    obtain ⟨_, _, h7, h8⟩ := putR_may h6
    rw [h7]
    exact nodeUp_of h1 h2 h8 h4 h5
  · exact h
theorem nodeUp_small {x : Node} (h : nodeUp x = true) : x.view.peers.length ≤ 16 ∧ x.view.passive.length ≤ 16 ∧ x.items.length ≤ 16 ∧ x.log.length ≤ 64 := by
  obtain ⟨h1, h2, h3, h4, h5⟩ := nodeUp_parts h
  have h6 := (viewMay_parts h2).2.2.1
  have h7 := ((storeMay_iff _).1 h3).2.2
  omega
theorem nodeUp_small2 {x : Node} (h : nodeUp x = true) : x.small := by
  obtain ⟨h1, h2, h3, h4⟩ := nodeUp_small h
  unfold Node.small View.small cap16 cap
  omega
end Go.AM
/- AM: contracts: what a node was told is noted. -/
namespace Go.AM
set_option linter.unusedSimpArgs false
set_option linter.unusedVariables false
set_option maxRecDepth 8000
set_option maxHeartbeats 0
def toldOf (key : Int) (i : Item) (has : Bool) : Told := ⟨key, has && !i.gone, if has && !i.gone then i.value else 0⟩
theorem ask_note (x : Node) (key : Int) (i : Item) (has : Bool) (hs : x.small) (hl : x.log.length ≤ 64) : Den PP 131 [nodeD x, .int .i64 key, .agg i.row, .bool has] [] (.agg [.bool x.up, .int .i64 x.view.id, .ref 0 0 x.view.peers.length, .ref 1 0 x.view.passive.length, .ref 2 0 x.items.length, .ref 3 (x.log.length + 1 - 64) (x.log.length + 1 - (x.log.length + 1 - 64))])
    [⟨x.view.peers.map Peer.row, 2, .mut⟩, ⟨x.view.passive.map irow, 1, .mut⟩, ⟨x.items.map Item.row, 5, .mut⟩, ⟨(x.log ++ [toldOf key i has]).map Told.row, 3, .mut⟩] := by
  have c1 := node_Copy x hs
  obtain ⟨ik, ic, iw, iv, ig⟩ := i
  simp only [nodeD, Node.cells, peersD, intsD, itemsD, toldsD, Item.row, copyD, nodeB] at c1 ⊢
  have hm : (if IntKind.wrap .i64 ((x.log.length : Int) + 1 - 64) < 0 then 0 else IntKind.wrap .i64 ((x.log.length : Int) + 1 - 64)) = ((x.log.length + 1 - 64 : Nat) : Int) := by
    rw [wrap_in (by omega) (by omega)]; split <;> omega
  refine den_of [12] [] is_ask_note ?_
  cases has <;> cases ig
  all_goals
    simp -implicitDefEqProofs [c_ask_note]
    refine callThen_of c1 ?_
    simp -implicitDefEqProofs [downTo]
  case false.false | false.true | true.true =>
    refine ⟨by simp [Fits], ?_⟩
    repeat' ((first | refine callThen_of (by first | exact ring_Place _ | exact den_nrm (ring_Place _) | exact den_nrm (by simpa using ring_Place _)) ?_ | with_reducible refine gOps_dec (fun _ => ?_) (fun _ => ?_) | with_reducible refine gOps_ndec (fun _ => ?_) (fun _ => ?_) | (with_reducible refine gOps_and (fun hq => ?_) (fun hq => ?_) <;> (try simp at hq)) | (with_reducible refine gOps_or (fun hq => ?_) (fun hq => ?_) <;> (try simp at hq)) | (with_reducible refine gOps_not (fun hq => ?_) (fun hq => ?_) <;> (try simp at hq)) | (with_reducible refine gOps_split (fun hq => ?_) (fun hq => ?_) <;> (try simp at hq)) | with_reducible refine condC_dec (fun _ => ?_) (fun _ => ?_) | with_reducible refine condC_ndec (fun _ => ?_) (fun _ => ?_) | (with_reducible refine condC_and (fun hq => ?_) (fun hq => ?_) <;> (try simp at hq)) | (with_reducible refine condC_or (fun hq => ?_) (fun hq => ?_) <;> (try simp at hq)) | (with_reducible refine condC_not (fun hq => ?_) (fun hq => ?_) <;> (try simp at hq)) | (with_reducible refine condC_split (fun hq => ?_) (fun hq => ?_) <;> (try simp at hq)) | refine appK2_if (by omega) ?_ | refine pureV_if (by omega) ?_) <;> simp -implicitDefEqProofs [*, downTo])
    simp -implicitDefEqProofs [minL, minF, hm]
    refine outK_slice (x.log.length + 1 - 64) (x.log.length + 1) (by simp; rfl) rfl (by simp [boundD, hm]) (by first | rfl | omega | (simp [boundD]; done) | (simp [boundD]; omega) | (simp; done) | (simp; omega) | (simp [*]; done) | (simp [*]; omega)) (by omega) (by first | rfl | omega | (simp [boundD]; done) | (simp [boundD]; omega) | (simp; done) | (simp; omega) | (simp [*]; done) | (simp [*]; omega)) rfl (by first | rfl | omega | (simp [boundD]; done) | (simp [boundD]; omega) | (simp; done) | (simp; omega) | (simp [*]; done) | (simp [*]; omega)) ?_
    simp -implicitDefEqProofs [toldOf, Told.row]
  case true.false =>
    repeat' apply And.intro
    all_goals try (simp [Fits]; done)
    all_goals
      repeat' ((first | refine callThen_of (by first | exact ring_Place _ | exact den_nrm (ring_Place _) | exact den_nrm (by simpa using ring_Place _)) ?_ | with_reducible refine gOps_dec (fun _ => ?_) (fun _ => ?_) | with_reducible refine gOps_ndec (fun _ => ?_) (fun _ => ?_) | (with_reducible refine gOps_and (fun hq => ?_) (fun hq => ?_) <;> (try simp at hq)) | (with_reducible refine gOps_or (fun hq => ?_) (fun hq => ?_) <;> (try simp at hq)) | (with_reducible refine gOps_not (fun hq => ?_) (fun hq => ?_) <;> (try simp at hq)) | (with_reducible refine gOps_split (fun hq => ?_) (fun hq => ?_) <;> (try simp at hq)) | with_reducible refine condC_dec (fun _ => ?_) (fun _ => ?_) | with_reducible refine condC_ndec (fun _ => ?_) (fun _ => ?_) | (with_reducible refine condC_and (fun hq => ?_) (fun hq => ?_) <;> (try simp at hq)) | (with_reducible refine condC_or (fun hq => ?_) (fun hq => ?_) <;> (try simp at hq)) | (with_reducible refine condC_not (fun hq => ?_) (fun hq => ?_) <;> (try simp at hq)) | (with_reducible refine condC_split (fun hq => ?_) (fun hq => ?_) <;> (try simp at hq)) | refine appK2_if (by omega) ?_ | refine pureV_if (by omega) ?_) <;> simp -implicitDefEqProofs [*, downTo])
      simp -implicitDefEqProofs [minL, minF, hm]
      refine outK_slice (x.log.length + 1 - 64) (x.log.length + 1) (by simp; rfl) rfl (by simp [boundD, hm]) (by first | rfl | omega | (simp [boundD]; done) | (simp [boundD]; omega) | (simp; done) | (simp; omega) | (simp [*]; done) | (simp [*]; omega)) (by omega) (by first | rfl | omega | (simp [boundD]; done) | (simp [boundD]; omega) | (simp; done) | (simp; omega) | (simp [*]; done) | (simp [*]; omega)) rfl (by first | rfl | omega | (simp [boundD]; done) | (simp [boundD]; omega) | (simp; done) | (simp; omega) | (simp [*]; done) | (simp [*]; omega)) ?_
      simp -implicitDefEqProofs [toldOf, Told.row]
end Go.AM
/- AM: contracts: messages that may be. -/
namespace Go.AM
set_option linter.unusedSimpArgs false
set_option linter.unusedVariables false
set_option maxRecDepth 8000
set_option maxHeartbeats 0
def noneM (ids : List Int) (key : Int) (i : Item) (has : Bool) : Bool := decide (ids.length = 0) && decide (key = 0) && decide (i = zeroItem) && !has
theorem msg_none_raw (kind f t key ik ic iw iv : Int) (ig has : Bool) (ids : List Int) : Den PP 169 [.agg [.int .i64 kind, .int .i64 f, .int .i64 t, .sl (ids.map irow) ids.length, .int .i64 key, .int .i64 ik, .int .i64 ic, .int .i64 iw, .int .i64 iv, .bool ig, .bool has]] [] (.bool (noneM ids key ⟨ik, ic, iw, iv, ig⟩ has)) [] := by
  refine den_of [] [] is_msg_none ?_
  simp -implicitDefEqProofs [c_msg_none, EQS]
  repeat' ((first | with_reducible refine gOps_dec (fun _ => ?_) (fun _ => ?_) | with_reducible refine gOps_ndec (fun _ => ?_) (fun _ => ?_) | (with_reducible refine gOps_and (fun hq => ?_) (fun hq => ?_) <;> (try simp at hq)) | (with_reducible refine gOps_or (fun hq => ?_) (fun hq => ?_) <;> (try simp at hq)) | (with_reducible refine gOps_not (fun hq => ?_) (fun hq => ?_) <;> (try simp at hq)) | (with_reducible refine gOps_split (fun hq => ?_) (fun hq => ?_) <;> (try simp at hq)) | with_reducible refine condC_dec (fun _ => ?_) (fun _ => ?_) | with_reducible refine condC_ndec (fun _ => ?_) (fun _ => ?_) | (with_reducible refine condC_and (fun hq => ?_) (fun hq => ?_) <;> (try simp at hq)) | (with_reducible refine condC_or (fun hq => ?_) (fun hq => ?_) <;> (try simp at hq)) | (with_reducible refine condC_not (fun hq => ?_) (fun hq => ?_) <;> (try simp at hq)) | (with_reducible refine condC_split (fun hq => ?_) (fun hq => ?_) <;> (try simp at hq)) | refine appK2_if (by omega) ?_ | refine pureV_if (by omega) ?_) <;> simp -implicitDefEqProofs [*, EQS])
  all_goals (simp only [noneM, zeroItem, Item.mk.injEq]; first | (simp [*]; done) | (simp [*]; grind) | grind)
theorem msg_none_nil (kind f t key ik ic iw iv : Int) (ig has : Bool) : Den PP 169 [.agg [.int .i64 kind, .int .i64 f, .int .i64 t, .nil, .int .i64 key, .int .i64 ik, .int .i64 ic, .int .i64 iw, .int .i64 iv, .bool ig, .bool has]] [] (.bool (noneM [] key ⟨ik, ic, iw, iv, ig⟩ has)) [] := by
  refine den_of [] [] is_msg_none ?_
  simp -implicitDefEqProofs [c_msg_none, EQS]
  repeat' ((first | with_reducible refine gOps_dec (fun _ => ?_) (fun _ => ?_) | with_reducible refine gOps_ndec (fun _ => ?_) (fun _ => ?_) | (with_reducible refine gOps_and (fun hq => ?_) (fun hq => ?_) <;> (try simp at hq)) | (with_reducible refine gOps_or (fun hq => ?_) (fun hq => ?_) <;> (try simp at hq)) | (with_reducible refine gOps_not (fun hq => ?_) (fun hq => ?_) <;> (try simp at hq)) | (with_reducible refine gOps_split (fun hq => ?_) (fun hq => ?_) <;> (try simp at hq)) | with_reducible refine condC_dec (fun _ => ?_) (fun _ => ?_) | with_reducible refine condC_ndec (fun _ => ?_) (fun _ => ?_) | (with_reducible refine condC_and (fun hq => ?_) (fun hq => ?_) <;> (try simp at hq)) | (with_reducible refine condC_or (fun hq => ?_) (fun hq => ?_) <;> (try simp at hq)) | (with_reducible refine condC_not (fun hq => ?_) (fun hq => ?_) <;> (try simp at hq)) | (with_reducible refine condC_split (fun hq => ?_) (fun hq => ?_) <;> (try simp at hq)) | refine appK2_if (by omega) ?_ | refine pureV_if (by omega) ?_) <;> simp -implicitDefEqProofs [*, EQS])
  all_goals (simp only [noneM, zeroItem, Item.mk.injEq]; first | (simp [*]; done) | (simp [*]; grind) | grind)
theorem msg_May (m : Msg) (hl : m.ids.length ≤ cap) : Den PP 85 [msgD m] [] (.bool (msgMay m)) [] := by
  obtain ⟨kind, from_, to, ids, key, ⟨ik, ic, iw, iv, ig⟩, has⟩ := m
  have c1 := ring_Places ids hl
  obtain ⟨A, hA⟩ : ∃ A, ids.all place = A := ⟨_, rfl⟩
  rw [hA] at c1
  simp only [intsD] at c1
  refine den_of [] [] is_msg_May ?_
  simp -implicitDefEqProofs [c_msg_May, msgD, Msg.row, intsD, EQS]
  repeat' ((first | refine callThen_of (by first | exact c1 | exact item_May_raw _ _ _ _ _ | exact ring_Place _ | exact msg_none_raw _ _ _ _ _ _ _ _ _ _ _ | exact msg_none_nil _ _ _ _ _ _ _ _ _ _ | exact den_nrm (msg_none_nil _ _ _ _ _ _ _ _ _ _) | exact den_nrm (by simpa using msg_none_nil _ _ _ _ _ _ _ _ _ _)) ?_ | with_reducible refine gOps_dec (fun _ => ?_) (fun _ => ?_) | with_reducible refine gOps_ndec (fun _ => ?_) (fun _ => ?_) | (with_reducible refine gOps_and (fun hq => ?_) (fun hq => ?_) <;> (try simp at hq)) | (with_reducible refine gOps_or (fun hq => ?_) (fun hq => ?_) <;> (try simp at hq)) | (with_reducible refine gOps_not (fun hq => ?_) (fun hq => ?_) <;> (try simp at hq)) | (with_reducible refine gOps_split (fun hq => ?_) (fun hq => ?_) <;> (try simp at hq)) | with_reducible refine condC_dec (fun _ => ?_) (fun _ => ?_) | with_reducible refine condC_ndec (fun _ => ?_) (fun _ => ?_) | (with_reducible refine condC_and (fun hq => ?_) (fun hq => ?_) <;> (try simp at hq)) | (with_reducible refine condC_or (fun hq => ?_) (fun hq => ?_) <;> (try simp at hq)) | (with_reducible refine condC_not (fun hq => ?_) (fun hq => ?_) <;> (try simp at hq)) | (with_reducible refine condC_split (fun hq => ?_) (fun hq => ?_) <;> (try simp at hq)) | refine appK2_if (by omega) ?_ | refine pureV_if (by omega) ?_) <;> simp -implicitDefEqProofs [*, EQS])
  all_goals (try simp only [noneM, zeroItem, Item.mk.injEq] at *)
  all_goals (simp only [msgMay, hA, zeroItem, Item.mk.injEq]; first | (simp [*]; done) | (simp [*]; grind) | grind)
end Go.AM
/- Plain law: a store takes items twice. -/
namespace Go.AM
set_option linter.unusedSimpArgs false
set_option linter.unusedVariables false

end Go.AM
/- AM: chapter 20's statements: TakeTwice, TakeBest. -/
namespace Go.AM
set_option linter.unusedSimpArgs false
set_option linter.unusedVariables false
set_option maxRecDepth 8000
set_option maxHeartbeats 0
end Go.AM
/- AM: contracts: asking, answering, being told; the document's. -/
namespace Go.AM
set_option linter.unusedSimpArgs false
set_option linter.unusedVariables false
set_option maxRecDepth 8000
set_option maxHeartbeats 0
def noteD (x : Node) (pre xs : List Told) : D := .agg [.bool x.up, .int .i64 x.view.id, .ref 0 0 x.view.peers.length, .ref 1 0 x.view.passive.length, .ref 2 0 x.items.length, .ref 3 pre.length xs.length]
def noteB (x : Node) (pre xs : List Told) : List Blk := [⟨x.view.peers.map Peer.row, 2, .mut⟩, ⟨x.view.passive.map irow, 1, .mut⟩, ⟨x.items.map Item.row, 5, .mut⟩, ⟨(pre ++ xs).map Told.row, 3, .mut⟩]
def logPre (x : Node) (t : Told) : List Told := (x.log ++ [t]).take (x.log.length + 1 - 64)
def logOf (x : Node) (t : Told) : List Told := (x.log ++ [t]).drop (x.log.length + 1 - 64)
theorem log_len (x : Node) (t : Told) : (logPre x t).length = x.log.length + 1 - 64 ∧ (logOf x t).length = x.log.length + 1 - (x.log.length + 1 - 64) ∧ logPre x t ++ logOf x t = x.log ++ [t] := by
  unfold logPre logOf
  refine ⟨by simp; omega, by simp, List.take_append_drop _ _⟩
theorem ask_note' (x : Node) (key : Int) (i : Item) (has : Bool) (hs : x.small) (hl : x.log.length ≤ 64) : Den PP 131 [nodeD x, .int .i64 key, .agg i.row, .bool has] [] (noteD x (logPre x (toldOf key i has)) (logOf x (toldOf key i has))) (noteB x (logPre x (toldOf key i has)) (logOf x (toldOf key i has))) := by
  have := ask_note x key i has hs hl
  obtain ⟨h1, h2, h3⟩ := log_len x (toldOf key i has)
  unfold noteD noteB
  rw [h1, h2, h3]
  exact this
def toB (x : Node) (m : Msg) (kind : Int) : Bool := nodeUp x && (msgMay m && (decide (m.kind = kind) && decide (m.to = x.view.id)))
theorem ask_to (x : Node) (m : Msg) (kind : Int) (hs : x.small) (hl : m.ids.length ≤ cap) : Den PP 129 [.mem x.cells, .mem m.row, .int .i64 kind] [] (.bool (toB x m kind)) [] := by
  have c1 := node_Up x hs
  have c2 := msg_May m hl
  unfold toB
  generalize nodeUp x = U at *
  generalize msgMay m = M at *
  simp only [nodeD, Node.cells, peersD, intsD, itemsD, toldsD, Item.row, msgD, Msg.row] at c1 c2 ⊢
  refine den_of [] [] is_ask_to ?_
  cases U <;> cases M
  all_goals
    simp -implicitDefEqProofs [c_ask_to]
    repeat' ((first | refine callThen_of (by first | exact c1 | exact c2) ?_ | with_reducible refine gOps_dec (fun _ => ?_) (fun _ => ?_) | with_reducible refine gOps_ndec (fun _ => ?_) (fun _ => ?_) | (with_reducible refine gOps_and (fun hq => ?_) (fun hq => ?_) <;> (try simp at hq)) | (with_reducible refine gOps_or (fun hq => ?_) (fun hq => ?_) <;> (try simp at hq)) | (with_reducible refine gOps_not (fun hq => ?_) (fun hq => ?_) <;> (try simp at hq)) | (with_reducible refine gOps_split (fun hq => ?_) (fun hq => ?_) <;> (try simp at hq)) | with_reducible refine condC_dec (fun _ => ?_) (fun _ => ?_) | with_reducible refine condC_ndec (fun _ => ?_) (fun _ => ?_) | (with_reducible refine condC_and (fun hq => ?_) (fun hq => ?_) <;> (try simp at hq)) | (with_reducible refine condC_or (fun hq => ?_) (fun hq => ?_) <;> (try simp at hq)) | (with_reducible refine condC_not (fun hq => ?_) (fun hq => ?_) <;> (try simp at hq)) | (with_reducible refine condC_split (fun hq => ?_) (fun hq => ?_) <;> (try simp at hq)) | refine appK2_if (by omega) ?_ | refine pureV_if (by omega) ?_) <;> simp -implicitDefEqProofs [*])
  all_goals (first | (simp [*]; done) | grind)
theorem nodeUp_log {x : Node} (h : nodeUp x = true) : x.log.length ≤ 64 := (nodeUp_parts h).2.2.2.1
def tellOf (x : Node) (m : Msg) : Msg := ⟨3, x.view.id, m.from_, [], m.key, (getR x.items m.key).1, (getR x.items m.key).2⟩
theorem ask_Answer_ok (x : Node) (m : Msg) (hs : x.small) (hl : m.ids.length ≤ cap) (h : toB x m 2 = true) : Den PP 45 [nodeD x, msgD m] [] (.tup [.ref 0 0 1, .int .i64 0]) [⟨[tellOf x m].map Msg.row0, 11, .mut⟩] := by
  have c1 := ask_to x m 2 hs hl
  have c4 := store_Get x.items m.key (by have := hs.2.1; unfold cap16; omega)
  rw [h] at c1
  unfold tellOf
  generalize getR x.items m.key = r at *
  obtain ⟨⟨ik, ic, iw, iv, ig⟩, g2⟩ := r
  simp only [nodeD, Node.cells, peersD, intsD, itemsD, toldsD, Item.row, msgD, Msg.row, Msg.row0, List.map_cons, List.map_nil] at c1 c4 ⊢
  clear h
  refine den_of [] [] is_ask_Answer ?_
  simp -implicitDefEqProofs [c_ask_Answer]
  repeat' ((first | refine callThen_of (by first | exact c1 | exact c4) ?_ | with_reducible refine gOps_dec (fun _ => ?_) (fun _ => ?_) | with_reducible refine gOps_ndec (fun _ => ?_) (fun _ => ?_) | (with_reducible refine gOps_and (fun hq => ?_) (fun hq => ?_) <;> (try simp at hq)) | (with_reducible refine gOps_or (fun hq => ?_) (fun hq => ?_) <;> (try simp at hq)) | (with_reducible refine gOps_not (fun hq => ?_) (fun hq => ?_) <;> (try simp at hq)) | (with_reducible refine gOps_split (fun hq => ?_) (fun hq => ?_) <;> (try simp at hq)) | with_reducible refine condC_dec (fun _ => ?_) (fun _ => ?_) | with_reducible refine condC_ndec (fun _ => ?_) (fun _ => ?_) | (with_reducible refine condC_and (fun hq => ?_) (fun hq => ?_) <;> (try simp at hq)) | (with_reducible refine condC_or (fun hq => ?_) (fun hq => ?_) <;> (try simp at hq)) | (with_reducible refine condC_not (fun hq => ?_) (fun hq => ?_) <;> (try simp at hq)) | (with_reducible refine condC_split (fun hq => ?_) (fun hq => ?_) <;> (try simp at hq)) | refine appK2_if (by omega) ?_ | refine pureV_if (by omega) ?_) <;> simp -implicitDefEqProofs [*, downTo])
  repeat' apply And.intro
  all_goals repeat' ((first | with_reducible refine gOps_dec (fun _ => ?_) (fun _ => ?_) | with_reducible refine gOps_ndec (fun _ => ?_) (fun _ => ?_) | (with_reducible refine gOps_and (fun hq => ?_) (fun hq => ?_) <;> (try simp at hq)) | (with_reducible refine gOps_or (fun hq => ?_) (fun hq => ?_) <;> (try simp at hq)) | (with_reducible refine gOps_not (fun hq => ?_) (fun hq => ?_) <;> (try simp at hq)) | (with_reducible refine gOps_split (fun hq => ?_) (fun hq => ?_) <;> (try simp at hq)) | with_reducible refine condC_dec (fun _ => ?_) (fun _ => ?_) | with_reducible refine condC_ndec (fun _ => ?_) (fun _ => ?_) | (with_reducible refine condC_and (fun hq => ?_) (fun hq => ?_) <;> (try simp at hq)) | (with_reducible refine condC_or (fun hq => ?_) (fun hq => ?_) <;> (try simp at hq)) | (with_reducible refine condC_not (fun hq => ?_) (fun hq => ?_) <;> (try simp at hq)) | (with_reducible refine condC_split (fun hq => ?_) (fun hq => ?_) <;> (try simp at hq)) | refine appK2_if (by omega) ?_ | refine pureV_if (by omega) ?_) <;> simp -implicitDefEqProofs [*, downTo])
def mT (m : Msg) : Told := toldOf m.key m.item m.has
theorem ask_Told_ok (x : Node) (m : Msg) (hs : x.small) (hl : m.ids.length ≤ cap) (h : toB x m 3 = true) : Den PP 46 [nodeD x, msgD m] [] (.tup [noteD x (logPre x (mT m)) (logOf x (mT m)), .int .i64 0]) (noteB x (logPre x (mT m)) (logOf x (mT m))) := by
  have c1 := ask_to x m 3 hs hl
  rw [h] at c1
  unfold toB at h
  simp only [Bool.and_eq_true, decide_eq_true_eq] at h
  have c5 := ask_note' x m.key m.item m.has hs (nodeUp_log h.1)
  clear h
  unfold mT
  generalize logPre x (toldOf m.key m.item m.has) = pre at *
  generalize logOf x (toldOf m.key m.item m.has) = xs at *
  simp only [nodeD, Node.cells, peersD, intsD, itemsD, toldsD, Item.row, msgD, Msg.row, noteD, noteB] at c1 c5 ⊢
  refine den_of [16] [] is_ask_Told ?_
  simp -implicitDefEqProofs [c_ask_Told]
  repeat' ((first | refine callThen_of (by first | exact c1 | exact c5) ?_ | with_reducible refine gOps_dec (fun _ => ?_) (fun _ => ?_) | with_reducible refine gOps_ndec (fun _ => ?_) (fun _ => ?_) | (with_reducible refine gOps_and (fun hq => ?_) (fun hq => ?_) <;> (try simp at hq)) | (with_reducible refine gOps_or (fun hq => ?_) (fun hq => ?_) <;> (try simp at hq)) | (with_reducible refine gOps_not (fun hq => ?_) (fun hq => ?_) <;> (try simp at hq)) | (with_reducible refine gOps_split (fun hq => ?_) (fun hq => ?_) <;> (try simp at hq)) | with_reducible refine condC_dec (fun _ => ?_) (fun _ => ?_) | with_reducible refine condC_ndec (fun _ => ?_) (fun _ => ?_) | (with_reducible refine condC_and (fun hq => ?_) (fun hq => ?_) <;> (try simp at hq)) | (with_reducible refine condC_or (fun hq => ?_) (fun hq => ?_) <;> (try simp at hq)) | (with_reducible refine condC_not (fun hq => ?_) (fun hq => ?_) <;> (try simp at hq)) | (with_reducible refine condC_split (fun hq => ?_) (fun hq => ?_) <;> (try simp at hq)) | refine appK2_if (by omega) ?_ | refine pureV_if (by omega) ?_) <;> simp -implicitDefEqProofs [*, downTo])
end Go.AM
/- Plain law: peers: one is heard, all age. -/
namespace Go.AM
set_option linter.unusedSimpArgs false
set_option linter.unusedVariables false

def PeerOk (base last : Int) (p : Peer) : Prop := place p.id = true ∧ 0 ≤ p.missed ∧ p.missed < 3 ∧ last < far base p.id
theorem peersOk_iff {base : Int} : ∀ (ps : List Peer) (last : Int), peersOk base last ps = true ↔ (∀ p ∈ ps, PeerOk base last p) ∧ ps.Pairwise (fun p q => far base p.id < far base q.id) := by
  intro ps
  induction ps with
  | nil => intro last; simp [peersOk]
  | cons p ps ih =>
    intro last
    simp only [peersOk, Bool.and_eq_true, decide_eq_true_eq, ih, List.mem_cons, List.pairwise_cons, PeerOk]
    constructor
    · rintro ⟨⟨⟨⟨h1, h2⟩, h3⟩, h4⟩, h5, h6⟩
      refine ⟨?_, fun q hq => (h5 q hq).2.2.2, h6⟩
      rintro q (rfl | hq)
      · exact ⟨h1, h2, h3, h4⟩
      · obtain ⟨a, b, c, d⟩ := h5 q hq
        exact ⟨a, b, c, by omega⟩
    · rintro ⟨h1, h2, h3⟩
      obtain ⟨a, b, c, d⟩ := h1 p (.inl rfl)
      refine ⟨⟨⟨⟨a, b⟩, c⟩, d⟩, fun q hq => ?_, h3⟩
      obtain ⟨a', b', c', d'⟩ := h1 q (.inr hq)
      exact ⟨a', b', c', h2 q hq⟩
theorem peersMay_iff {base : Int} {ps : List Peer} : peersMay base ps = true ↔ place base = true ∧ ps.length ≤ 16 ∧ (∀ p ∈ ps, PeerOk base 0 p) ∧ ps.Pairwise (fun p q => far base p.id < far base q.id) := by
  simp only [peersMay, Bool.and_eq_true, decide_eq_true_eq, peersOk_iff]
  constructor
  · rintro ⟨⟨a, b⟩, c⟩; exact ⟨a, b, c⟩
  · rintro ⟨a, b, c⟩; exact ⟨⟨a, b⟩, c⟩

theorem hearG_true (base id : Int) : ∀ ps : List Peer, hearG base id true ps = ps.filter fun p => !decide (p.id = id) := by
  intro ps
  induction ps with
  | nil => rfl
  | cons p ps ih =>
    simp only [hearG, Bool.true_or, ih]
    by_cases h : p.id = id <;> simp [h]
theorem hearG_far (base id : Int) (p : Peer) (ps : List Peer) (h : far base id ≤ far base p.id) : hearG base id false (p :: ps) = ⟨id, 0⟩ :: (p :: ps).filter fun p => !decide (p.id = id) := by
  simp only [hearG, h, decide_true, Bool.or_true, hearG_true]
  by_cases h2 : p.id = id <;> simp [h2]
theorem hearG_near (base id : Int) (p : Peer) (ps : List Peer) (h : ¬ far base id ≤ far base p.id) : hearG base id false (p :: ps) = p :: hearG base id false ps := by
  have : p.id ≠ id := by intro e; rw [e] at h; omega
  simp [hearG, h, this]
theorem hearG_filter (base id : Int) : ∀ ps : List Peer, (hearG base id false ps).filter (fun p => !decide (p.id = id)) = ps.filter fun p => !decide (p.id = id) := by
  intro ps
  induction ps with
  | nil => simp [hearG]
  | cons p ps ih =>
    by_cases h : far base id ≤ far base p.id
    · rw [hearG_far _ _ _ _ h]
      simp
    · rw [hearG_near _ _ _ _ h]
      have : p.id ≠ id := by intro e; rw [e] at h; omega
      simp [this, ih]
theorem hearG_zero (base id : Int) : ∀ (ps : List Peer) (q : Peer), q ∈ hearG base id false ps → q.id = id → q = ⟨id, 0⟩ := by
  intro ps
  induction ps with
  | nil => intro q hq _; simpa [hearG] using hq
  | cons p ps ih =>
    intro q hq e
    by_cases h : far base id ≤ far base p.id
    · rw [hearG_far _ _ _ _ h] at hq
      rcases List.mem_cons.1 hq with h1 | h1
      · exact h1
      · have := (List.mem_filter.1 h1).2
        simp [e] at this
    · rw [hearG_near _ _ _ _ h] at hq
      rcases List.mem_cons.1 hq with h1 | h1
      · subst h1
        rw [e] at h
        omega
      · exact ih q h1 e
theorem hearG_in (base id : Int) : ∀ (ps : List Peer) (q : Peer), q ∈ hearG base id false ps → q = ⟨id, 0⟩ ∨ q ∈ ps := by
  intro ps
  induction ps with
  | nil => intro q hq; exact .inl (by simpa [hearG] using hq)
  | cons p ps ih =>
    intro q hq
    by_cases h : far base id ≤ far base p.id
    · rw [hearG_far _ _ _ _ h] at hq
      rcases List.mem_cons.1 hq with h1 | h1
      · exact .inl h1
      · exact .inr (List.mem_filter.1 h1).1
    · rw [hearG_near _ _ _ _ h] at hq
      rcases List.mem_cons.1 hq with h1 | h1
      · exact .inr (by simp [h1])
      · rcases ih q h1 with h2 | h2
        · exact .inl h2
        · exact .inr (List.mem_cons_of_mem _ h2)
theorem hearG_length (base id : Int) : ∀ ps : List Peer, (hearG base id false ps).length = (ps.filter fun p => !decide (p.id = id)).length + 1 := by
  intro ps
  induction ps with
  | nil => rfl
  | cons p ps ih =>
    by_cases h : far base id ≤ far base p.id
    · rw [hearG_far _ _ _ _ h]
      simp
    · rw [hearG_near _ _ _ _ h]
      have : p.id ≠ id := by intro e; rw [e] at h; omega
      simp [this, ih]
theorem hearG_has (base id : Int) (ps : List Peer) : ∃ q ∈ hearG base id false ps, q.id = id := by
  have h := (hearG_mem base id ps false id).2 (.inr ⟨rfl, rfl⟩)
  simpa using h
theorem hearG_pair {base id : Int} (hb : place base = true) (hid : place id = true) : ∀ ps : List Peer, (∀ p ∈ ps, place p.id = true) → ps.Pairwise (fun p q => far base p.id < far base q.id) → (hearG base id false ps).Pairwise (fun p q => far base p.id < far base q.id) := by
  intro ps
  induction ps with
  | nil => intro _ _; simp [hearG]
  | cons p ps ih =>
    intro hp hr
    by_cases h : far base id ≤ far base p.id
    · rw [hearG_far _ _ _ _ h, List.pairwise_cons]
      refine ⟨fun q hq => ?_, hr.filter _⟩
      obtain ⟨h1, h2⟩ := List.mem_filter.1 hq
      have h3 : far base p.id ≤ far base q.id := by
        rcases List.mem_cons.1 h1 with h4 | h4
        · subst h4; omega
        · have := (List.pairwise_cons.1 hr).1 q h4
          omega
      have h5 : far base q.id ≠ far base id := by
        intro e
        have := (far_inj hb (hp q h1) hid).1 e
        simp [this] at h2
      show far base id < far base q.id
      omega
    · rw [hearG_near _ _ _ _ h, List.pairwise_cons]
      refine ⟨fun q hq => ?_, ih (fun q hq => hp q (List.mem_cons_of_mem _ hq)) (List.pairwise_cons.1 hr).2⟩
      rcases hearG_in base id ps q hq with h1 | h1
      · subst h1
        show far base p.id < far base id
        omega
      · exact (List.pairwise_cons.1 hr).1 q h1
theorem findAt_cons (base : Int) (p : Peer) (ps : List Peer) (id : Int) : findAt base (p :: ps) id = if far base p.id < far base id then findAt base ps id + 1 else 0 := by
  unfold findAt
  rw [List.takeWhile_cons]
  by_cases h : far base p.id < far base id <;> simp [h]
theorem peerIs_cons (base : Int) (p : Peer) (ps : List Peer) (id : Int) : peerIs base (p :: ps) id = if far base p.id < far base id then peerIs base ps id else decide (far base p.id = far base id) := by
  unfold peerIs
  rw [findAt_cons]
  by_cases h : far base p.id < far base id <;> simp [h, isFar]
theorem hearG_at {base id : Int} (hb : place base = true) (hid : place id = true) : ∀ ps : List Peer, (∀ p ∈ ps, place p.id = true) → ps.Pairwise (fun p q => far base p.id < far base q.id) →
    (peerIs base ps id = true → findAt base ps id < ps.length ∧ (∃ m, ps[findAt base ps id]? = some ⟨id, m⟩) ∧ hearG base id false ps = ps.set (findAt base ps id) ⟨id, 0⟩) ∧ (peerIs base ps id = false → hearG base id false ps = insL ps (findAt base ps id) ⟨id, 0⟩) := by
  intro ps
  induction ps with
  | nil => intro _ _; exact ⟨fun h => by simp [peerIs, findAt, isFar] at h, fun _ => rfl⟩
  | cons p ps ih =>
    intro hp hr
    have hr' := (List.pairwise_cons.1 hr).2
    obtain ⟨i1, i2⟩ := ih (fun q hq => hp q (List.mem_cons_of_mem _ hq)) hr'
    rw [peerIs_cons, findAt_cons]
    have hno : ∀ q ∈ ps, far base id ≤ far base p.id → q.id ≠ id := by
      intro q hq h e
      have := (List.pairwise_cons.1 hr).1 q hq
      rw [e] at this
      omega
    by_cases h : far base p.id < far base id
    · rw [if_pos h, if_pos h, hearG_near _ _ _ _ (by omega)]
      refine ⟨fun h1 => ?_, fun h1 => ?_⟩
      · obtain ⟨a, b, c⟩ := i1 h1
        exact ⟨by simp; omega, by simpa using b, by simp [c]⟩
      · rw [i2 h1]
        simp [insL]
    · rw [if_neg h, if_neg h, hearG_far _ _ _ _ (by omega)]
      have hf : ps.filter (fun p => !decide (p.id = id)) = ps := by
        rw [List.filter_eq_self]
        intro q hq
        have := hno q hq (by omega)
        simp [this]
      refine ⟨fun h1 => ?_, fun h1 => ?_⟩
      · have e : p.id = id := (far_inj hb (hp p (by simp)) hid).1 (by simpa using h1)
        obtain ⟨pi, pm⟩ := p
        simp only at e
        subst e
        refine ⟨by simp, ⟨pm, rfl⟩, ?_⟩
        simp [hf]
      · have e : p.id ≠ id := by
          intro e
          rw [e] at h1
          simp at h1
        simp [e, hf, insL]
end Go.AM
/- AM: contracts: peers: one is heard, all age. -/
namespace Go.AM
set_option linter.unusedSimpArgs false
set_option linter.unusedVariables false
set_option maxRecDepth 8000
set_option maxHeartbeats 0
theorem peer_still (p : Peer) : ∀ d ∈ p.row, d.still = true := by
  intro d hd
  simp [Peer.row] at hd
  rcases hd with rfl | rfl <;> rfl
theorem peers_Heard (base : Int) (ps : List Peer) (id : Int) (hl : ps.length ≤ cap16) : Den PP 192 [.int .i64 base, peersD ps, .int .i64 id] [] (.tup [.ref 0 0 (refHeard base ps id).1.length, .int .i64 (refHeard base ps id).2]) [⟨(refHeard base ps id).1.map Peer.row, 2, .mut⟩] := by
  have c1 := peers_May base ps (cap_of hl)
  have c0 := ring_Place id
  have c2 := fun h : ps.length ≤ 16 => clone_Peer (ps.map Peer.row) (by intro r hr; obtain ⟨a, _, rfl⟩ := List.mem_map.1 hr; exact ⟨rfl, rfl⟩) (by simp; omega)
  have c3 := fun h => peers_Find base ps id (cap_of hl) h
  obtain ⟨r, hr⟩ : ∃ r, refHeard base ps id = r := ⟨_, rfl⟩
  have hr' := hr
  unfold refHeard at hr'
  rw [peersMay_eq] at hr'
  rw [hr]
  clear hr
  simp only [peersD, List.length_map] at c1 c2 c3
  refine den_ofG [26, 34] [34] [34] [] (fun _ h => absurd h List.not_mem_nil) is_peers_Heard ?_
  simp -implicitDefEqProofs [c_peers_Heard, peersD]
  refine callThen_of c1 ?_
  simp -implicitDefEqProofs
  cases h1 : peersMay base ps with
  | false =>
    rw [h1] at hr'
    simp at hr'
    subst hr'
    simp -implicitDefEqProofs
  | true =>
  cases h2 : place id with
  | false =>
    rw [h2] at hr' c0
    simp at hr'
    subst hr'
    simp -implicitDefEqProofs
    repeat' ((first | refine callThen_of (by first | exact c0) ?_ | with_reducible refine gOps_dec (fun _ => ?_) (fun _ => ?_) | with_reducible refine gOps_ndec (fun _ => ?_) (fun _ => ?_) | (with_reducible refine gOps_and (fun hq => ?_) (fun hq => ?_) <;> (try simp at hq)) | (with_reducible refine gOps_or (fun hq => ?_) (fun hq => ?_) <;> (try simp at hq)) | (with_reducible refine gOps_not (fun hq => ?_) (fun hq => ?_) <;> (try simp at hq)) | (with_reducible refine gOps_split (fun hq => ?_) (fun hq => ?_) <;> (try simp at hq)) | with_reducible refine condC_dec (fun _ => ?_) (fun _ => ?_) | with_reducible refine condC_ndec (fun _ => ?_) (fun _ => ?_) | (with_reducible refine condC_and (fun hq => ?_) (fun hq => ?_) <;> (try simp at hq)) | (with_reducible refine condC_or (fun hq => ?_) (fun hq => ?_) <;> (try simp at hq)) | (with_reducible refine condC_not (fun hq => ?_) (fun hq => ?_) <;> (try simp at hq)) | (with_reducible refine condC_split (fun hq => ?_) (fun hq => ?_) <;> (try simp at hq)) | refine appK2_if (by omega) ?_ | refine pureV_if (by omega) ?_) <;> simp -implicitDefEqProofs [*])
  | true =>
  rw [h1, h2] at hr'
  rw [h2] at c0
  by_cases h3 : id = base
  · simp [h3] at hr'
    subst hr'
    simp -implicitDefEqProofs
    repeat' ((first | refine callThen_of (by first | exact c0) ?_ | with_reducible refine gOps_dec (fun _ => ?_) (fun _ => ?_) | with_reducible refine gOps_ndec (fun _ => ?_) (fun _ => ?_) | (with_reducible refine gOps_and (fun hq => ?_) (fun hq => ?_) <;> (try simp at hq)) | (with_reducible refine gOps_or (fun hq => ?_) (fun hq => ?_) <;> (try simp at hq)) | (with_reducible refine gOps_not (fun hq => ?_) (fun hq => ?_) <;> (try simp at hq)) | (with_reducible refine gOps_split (fun hq => ?_) (fun hq => ?_) <;> (try simp at hq)) | with_reducible refine condC_dec (fun _ => ?_) (fun _ => ?_) | with_reducible refine condC_ndec (fun _ => ?_) (fun _ => ?_) | (with_reducible refine condC_and (fun hq => ?_) (fun hq => ?_) <;> (try simp at hq)) | (with_reducible refine condC_or (fun hq => ?_) (fun hq => ?_) <;> (try simp at hq)) | (with_reducible refine condC_not (fun hq => ?_) (fun hq => ?_) <;> (try simp at hq)) | (with_reducible refine condC_split (fun hq => ?_) (fun hq => ?_) <;> (try simp at hq)) | refine appK2_if (by omega) ?_ | refine pureV_if (by omega) ?_) <;> simp -implicitDefEqProofs [*, h3])
  obtain ⟨hb, h16, hp, hd⟩ := peersMay_iff.1 h1
  obtain ⟨ha1, ha2⟩ := hearG_at hb h2 ps (fun p hp' => (hp p hp').1) hd
  have hlen := hearG_length base id ps
  have hple := findAt_le base ps id
  have c4 := c3 (peersMay_rowed h1)
  clear c3
  generalize peerIs base ps id = A at *
  generalize findAt base ps id = p at *
  have h3' : (id == base) = false := by simpa using h3
  simp only [h3', Bool.not_false, Bool.and_self, if_true] at hr'
  simp -implicitDefEqProofs
  refine callThen_of c0 ?_
  simp -implicitDefEqProofs [h3]
  refine callThen_of (c2 h16) ?_
  simp -implicitDefEqProofs [downTo]
  refine callThen_of c4 ?_
  simp -implicitDefEqProofs [downTo]
  cases A with
  | true =>
    obtain ⟨hlt, ⟨m, hy⟩, hput⟩ := ha1 rfl
    have hr2 : r = (ps.set p ⟨id, 0⟩, 0) := by
      rw [← hr', hput]
      simp [h16]
    subst hr2
    have hlt' : (p : Int) < ps.length := by omega
    have hy2 : ps[p] = ⟨id, m⟩ := by simpa [hlt] using hy
    clear hr' hput ha1 ha2 hlen c4 hp hd
    simp -implicitDefEqProofs [hlt, hlt', hy2, Peer.row]
  | false =>
    have hput := ha2 rfl
    rw [hput] at hr' hlen
    simp only [insL_length] at hr' hlen
    by_cases h5 : ps.length = 16
    · have hr2 : r = ([], 701) := by
        rw [← hr']
        simp [h5]
      subst hr2
      clear hr' hput ha1 ha2 hlen c4 hp hd
      simp -implicitDefEqProofs [h5]
    · have hr2 : r = (insL ps p ⟨id, 0⟩, 0) := by
        rw [← hr', if_pos (by omega)]
      subst hr2
      clear hr' hput ha1 ha2 hlen c4 hp hd
      have h5' : ¬ (ps.length : Int) = 16 := by omega
      simp -implicitDefEqProofs [h5']
      refine giveThen_of rfl (by simp) (by simp) (by simp) (insert_Peer (ps.map Peer.row) (Peer.row ⟨id, 0⟩) p (by simp [Peer.row]) (StillR.map _ _ fun a _ => peer_still a) (by intro r hr; rw [List.mem_singleton.1 hr]; exact ⟨rfl, rfl⟩) (peer_still _) (by simpa using hple) (by simp; omega)) ?_
      rw [← insL_map]
      simp -implicitDefEqProofs [downTo]
end Go.AM
/- Plain law: peers heard in a row stand in the row of distances. -/
namespace Go.AM
set_option linter.unusedSimpArgs false
set_option linter.unusedVariables false

end Go.AM
/- Plain law: greetings. -/
namespace Go.AM
set_option linter.unusedSimpArgs false
set_option linter.unusedVariables false

def knowsV (v : View) (x : Int) : Bool := (v.peers.map Peer.id).contains x || v.passive.contains x
def roomV (v : View) (x : Int) : Bool := knowsV v x || decide (v.peers.length + v.passive.length < 16)
def knownV (v : View) (x : Int) : View := if roomV v x then ⟨v.id, hearG v.id x false v.peers, v.passive.filter fun y => !decide (y = x)⟩ else v
def tellV (v : View) (x : Int) : View := if !decide (x = v.id) && !knowsV v x then knownV v x else v
def helloV (v : View) (a : Int) (ids : List Int) : View := ids.foldl tellV (knownV v a)
def helloOk (v : View) (a : Int) (ids : List Int) : Bool := viewMay v && (place a && (!decide (a = v.id) && (decide (ids.length ≤ 16) && ids.all place)))

theorem viewMay_of {v : View} (h1 : peersMay v.id v.peers = true) (h2 : passiveMay v.passive = true) (h3 : v.peers.length + v.passive.length ≤ 16) (h4 : ∀ x ∈ v.passive, x ≠ v.id ∧ x ∉ v.peers.map Peer.id) : viewMay v = true := by
  simp only [viewMay, Bool.and_eq_true, decide_eq_true_eq, Bool.not_eq_true']
  refine ⟨⟨⟨h1, h2⟩, h3⟩, ?_⟩
  rw [List.any_eq_false]
  intro x hx
  simp only [oddIn, Bool.or_eq_true, not_or]
  rw [peerIs_mem h1 (passiveMay_places h2 x hx)]
  have := h4 x hx
  simpa using this
theorem knowsV_iff (v : View) (x : Int) : knowsV v x = true ↔ (∃ q ∈ v.peers, q.id = x) ∨ x ∈ v.passive := by
  simp [knowsV]
theorem hearG_mem_iff {b x : Int} {ps : List Peer} (q : Peer) : q ∈ hearG b x false ps ↔ q = ⟨x, 0⟩ ∨ (q ∈ ps ∧ q.id ≠ x) := by
  have hf := hearG_filter b x ps
  constructor
  · intro h
    by_cases he : q.id = x
    · exact .inl (hearG_zero b x ps q h he)
    · rcases hearG_in b x ps q h with h' | h'
      · exact .inl h'
      · exact .inr ⟨h', he⟩
  · rintro (rfl | ⟨h, he⟩)
    · obtain ⟨q, hq, hi⟩ := hearG_has b x ps
      rw [← hearG_zero b x ps q hq hi]
      exact hq
    · have : q ∈ (hearG b x false ps).filter fun p => !decide (p.id = x) := by rw [hf]; simp [h, he]
      exact (List.mem_filter.1 this).1
theorem knownV_id (v : View) (x : Int) : (knownV v x).id = v.id := by
  unfold knownV; split <;> rfl
theorem knownV_no {v : View} {x : Int} (h : roomV v x = false) : knownV v x = v := by
  unfold knownV; rw [if_neg (by simp [h])]
theorem knownV_peers {v : View} {x : Int} (h : roomV v x = true) (q : Peer) : q ∈ (knownV v x).peers ↔ q = ⟨x, 0⟩ ∨ (q ∈ v.peers ∧ q.id ≠ x) := by
  unfold knownV; rw [if_pos h]; exact hearG_mem_iff q
theorem knownV_passive {v : View} {x : Int} (h : roomV v x = true) (y : Int) : y ∈ (knownV v x).passive ↔ y ∈ v.passive ∧ y ≠ x := by
  unfold knownV; rw [if_pos h]; simp
theorem tellV_id (v : View) (x : Int) : (tellV v x).id = v.id := by
  unfold tellV; split
  · exact knownV_id v x
  · rfl

def sizeV (v : View) : Nat := v.peers.length + v.passive.length
theorem filter_len_peers {b : Int} {ps : List Peer} (h : peersMay b ps = true) {x : Int} : (ps.filter fun p => !decide (p.id = x)).length + (if (∃ q ∈ ps, q.id = x) then 1 else 0) = ps.length := by
  obtain ⟨hb, _, h1, h2⟩ := peersMay_iff.1 h
  clear h h1
  induction ps with
  | nil => simp
  | cons p ps ih =>
    have hp := (List.pairwise_cons.1 h2).1
    have ih := ih (by first | assumption | (rename_i hlen; simp at hlen; omega)) (List.pairwise_cons.1 h2).2
    by_cases he : p.id = x
    · have hno : ¬ ∃ q ∈ ps, q.id = x := by
        rintro ⟨q, hq, hqx⟩
        have := hp q hq
        rw [he, hqx] at this
        omega
      rw [if_neg hno] at ih
      rw [if_pos ⟨p, by simp, he⟩]
      simp [he]
      simpa using ih
    · have : (∃ q ∈ p :: ps, q.id = x) ↔ ∃ q ∈ ps, q.id = x := by simp [he]
      simp only [this]
      simp [he]
      omega
theorem passive_len {xs : List Int} (h : passiveMay xs = true) (x : Int) : (xs.filter fun y => !decide (y = x)).length + (if x ∈ xs then 1 else 0) = xs.length := by
  by_cases hx : x ∈ xs
  · rw [if_pos hx, ← filter_one ((passiveMay_iff xs).1 h).1 hx]
  · rw [if_neg hx, filter_out hx]; rfl
theorem knownV_size {v : View} {x : Int} (hv : viewMay v = true) (h : roomV v x = true) : sizeV (knownV v x) = if knowsV v x then sizeV v else sizeV v + 1 := by
  obtain ⟨h1, h2, h3, h4⟩ := viewMay_parts hv
  have e1 := filter_len_peers h1 (x := x)
  have e2 := passive_len h2 x
  have e3 := hearG_length v.id x v.peers
  have hk := knowsV_iff v x
  unfold sizeV knownV
  rw [if_pos h]
  simp only
  by_cases hp : ∃ q ∈ v.peers, q.id = x
  · have hnx : x ∉ v.passive := by
      intro hx
      obtain ⟨q, hq, hqx⟩ := hp
      exact (h4 x hx).2 (List.mem_map.2 ⟨q, hq, hqx⟩)
    rw [if_pos hp] at e1
    rw [if_neg hnx] at e2
    rw [if_pos (hk.2 (.inl hp))]
    omega
  · rw [if_neg hp] at e1
    by_cases hx : x ∈ v.passive
    · rw [if_pos hx] at e2
      rw [if_pos (hk.2 (.inr hx))]
      omega
    · rw [if_neg hx] at e2
      have : ¬ knowsV v x = true := by rw [hk]; simp [hp, hx]
      rw [if_neg this]
      omega
theorem knownV_may {v : View} {x : Int} (hv : viewMay v = true) (hx : place x = true) (hn : x ≠ v.id) : viewMay (knownV v x) = true ∧ (roomV v x = true → refHeard v.id v.peers x = (hearG v.id x false v.peers, 0)) := by
  cases hr : roomV v x with
  | false => rw [knownV_no hr]; exact ⟨hv, by simp⟩
  | true =>
    have hsz := knownV_size hv hr
    obtain ⟨h1, h2, h3, h4⟩ := viewMay_parts hv
    obtain ⟨hb, _, hok, hpw⟩ := peersMay_iff.1 h1
    have hle : sizeV (knownV v x) ≤ 16 := by
      rw [hsz]
      unfold roomV at hr
      split
      · exact h3
      · rename_i hk
        simp [hk] at hr
        unfold sizeV
        omega
    have hpm : peersMay v.id (hearG v.id x false v.peers) = true := by
      rw [peersMay_iff]
      refine ⟨hb, ?_, ?_, hearG_pair hb hx v.peers (fun p hp => (hok p hp).1) hpw⟩
      · have : (knownV v x).peers = hearG v.id x false v.peers := by unfold knownV; rw [if_pos hr]
        unfold sizeV at hle
        rw [this] at hle
        omega
      · intro p hp
        rcases hearG_mem_iff (b := v.id) p |>.1 hp with rfl | ⟨hp, _⟩
        · refine ⟨hx, by simp, by simp, ?_⟩
          have := far_range hb hx
          have := mt (far_zero hb hx).1 hn
          simp only
          omega
        · exact hok p hp
    have hpeers : (knownV v x).peers = hearG v.id x false v.peers := by unfold knownV; rw [if_pos hr]
    refine ⟨viewMay_of ?_ ?_ hle ?_, fun _ => ?_⟩
    · rw [hpeers, knownV_id]; exact hpm
    · unfold knownV; rw [if_pos hr]; exact passiveMay_filter h2
    · intro y hy
      rw [knownV_passive hr] at hy
      have := h4 y hy.1
      refine ⟨by rw [knownV_id]; exact this.1, ?_⟩
      intro hm
      obtain ⟨q, hq, hqy⟩ := List.mem_map.1 hm
      rw [knownV_peers hr] at hq
      rcases hq with rfl | ⟨hq, _⟩
      · exact hy.2 hqy.symm
      · exact this.2 (List.mem_map.2 ⟨q, hq, hqy⟩)
    · have hl : (hearG v.id x false v.peers).length ≤ 16 := (peersMay_iff.1 hpm).2.1
      unfold refHeard
      rw [peersMay_eq, h1, hx]
      simp [hn, hl]
theorem tellV_may {v : View} {x : Int} (hv : viewMay v = true) (hx : place x = true) : viewMay (tellV v x) = true := by
  unfold tellV
  split
  · rename_i h
    simp only [Bool.and_eq_true, Bool.not_eq_true', decide_eq_false_iff_not] at h
    exact (knownV_may hv hx h.1).1
  · exact hv
theorem tells_may : ∀ (ids : List Int) (v : View), viewMay v = true → (∀ x ∈ ids, place x = true) → viewMay (ids.foldl tellV v) = true ∧ (ids.foldl tellV v).id = v.id := by
  intro ids
  induction ids with
  | nil => intro v hv _; exact ⟨hv, rfl⟩
  | cons x ids ih =>
    intro v hv hp
    obtain ⟨a, b⟩ := ih (tellV v x) (tellV_may hv (hp x (by simp))) (fun y hy => hp y (by simp [hy]))
    exact ⟨a, by rw [List.foldl_cons, b, tellV_id]⟩
theorem helloOk_parts {v : View} {a : Int} {ids : List Int} (h : helloOk v a ids = true) : viewMay v = true ∧ place a = true ∧ a ≠ v.id ∧ ids.length ≤ 16 ∧ ∀ x ∈ ids, place x = true := by
  simp only [helloOk, Bool.and_eq_true, Bool.not_eq_true', decide_eq_false_iff_not, decide_eq_true_eq, List.all_eq_true] at h
  exact ⟨h.1, h.2.1, h.2.2.1, h.2.2.2.1, h.2.2.2.2⟩
theorem helloV_may {v : View} {a : Int} {ids : List Int} (h : helloOk v a ids = true) : viewMay (helloV v a ids) = true ∧ (helloV v a ids).id = v.id := by
  obtain ⟨h1, h2, h3, h4, h5⟩ := helloOk_parts h
  obtain ⟨a, b⟩ := tells_may ids _ (knownV_may h1 h2 h3).1 h5
  exact ⟨a, by unfold helloV; rw [b, knownV_id]⟩

end Go.AM
/- AM: contracts: one is heard, of a view that is lent. -/
namespace Go.AM
set_option linter.unusedSimpArgs false
set_option linter.unusedVariables false
set_option maxRecDepth 8000
set_option maxHeartbeats 0
theorem slices_Index_int (xs : List Int) (y : Int) (hl : xs.length ≤ cap) : Den PP 229 [intsD xs, .int .i64 y] [] (.int .i64 (fIdx (fun x => decide (y = x)) 0 xs)) [] := by
  unfold cap at hl
  refine den_of [] [] is_slices_Index_int_int ?_
  simp -implicitDefEqProofs [c_slices_Index_int_int, intsD]
  refine anyLoop_of (xs.length + 1) ?_
  have key : ∀ (Q : Ex → St → Prop) (r : Int) (hQ1 : ∀ fr, r = -1 → Q .normal ⟨fr, []⟩) (hQ2 : ∀ fr bs, fr 4 = .int .i64 r → Q .ret ⟨fr, bs⟩) (rest : List Int) (i : Nat) (fr : Nat → D), xs.drop i = rest → i ≤ xs.length →
      fr 0 = .sl (xs.map irow) xs.length → fr 1 = .int .i64 y → fr 7 = .int .i64 xs.length → fr 8 = .int .i64 i → fIdx (fun x => decide (y = x)) i rest = r → sLoop (cf 0 [] []) 0 c_slices_Index_int_int_L0 (blockQ 0 Q) (rest.length + 1) ⟨fr, []⟩ := by
    intro Q r hQ1 hQ2 rest
    induction rest with
    | nil =>
      intro i fr e hi h0 h1 h7 h8 hm
      refine sLoop_body c_slices_Index_int_int_L0.eq_1 ?_
      have hi' := drop_nil e hi
      simp -implicitDefEqProofs [h0, h1, h7, h8, hi']
      exact hQ1 _ hm.symm
    | cons x rest ih =>
      intro i fr e hi h0 h1 h7 h8 hm
      refine sLoop_body c_slices_Index_int_int_L0.eq_1 ?_
      obtain ⟨hlt, hget, hd, hlen⟩ := drop_cons e
      have hlt' : (i : Int) < xs.length := by omega
      have hw := wrap_next (show i ≤ 140737488355328 by omega)
      simp only [fIdx] at hm
      simp -implicitDefEqProofs [h0, h1, h7, h8, hlt', hget, irow]
      refine condC_dec (fun h2 => ?_) (fun h2 => ?_)
      all_goals simp -implicitDefEqProofs [h2, h0, h1, h7, h8, hw]
      · exact hQ2 _ _ (by rw [← hm]; simp [h2])
      · exact ih (i + 1) _ hd (by omega) (by simp [h0]) (by simp [h1]) (by simp [h7]) (by simp) (by rw [← hm]; simp [h2])
  refine key _ (fIdx (fun x => decide (y = x)) 0 xs) (fun fr h => ?_) (fun fr bs h => ?_) xs 0 _ rfl (Nat.zero_le _) rfl rfl rfl rfl rfl
  · simp -implicitDefEqProofs [h]
  · simp -implicitDefEqProofs [h]
theorem slices_Contains_int (xs : List Int) (y : Int) (hl : xs.length ≤ cap) : Den PP 194 [intsD xs, .int .i64 y] [] (.bool (xs.contains y)) [] := by
  have c1 := slices_Index_int xs y hl
  have e := fIdx_any (fun x => decide (y = x)) xs 0
  have e2 : xs.contains y = xs.any fun x => decide (y = x) := by
    rw [Bool.eq_iff_iff]
    simp
  rw [e2]
  simp only [intsD] at c1 ⊢
  refine den_of [] [] is_slices_Contains_int_int ?_
  simp -implicitDefEqProofs [c_slices_Contains_int_int]
  refine callThen_of c1 ?_
  simp -implicitDefEqProofs [← e]
theorem view_Passive (v : View) (id : Int) (hl : v.passive.length ≤ cap) : Den PP 122 [.mem v.cells, .int .i64 id] [] (.bool (v.passive.contains id)) [] := by
  have c1 := slices_Contains_int v.passive id hl
  simp only [intsD, View.cells, peersD] at c1 ⊢
  generalize v.passive.contains id = B at *
  refine den_of [] [] is_view_Passive ?_
  simp -implicitDefEqProofs [c_view_Passive]
  repeat' ((first | refine callThen_of (by first | exact c1) ?_ | with_reducible refine gOps_dec (fun _ => ?_) (fun _ => ?_) | with_reducible refine gOps_ndec (fun _ => ?_) (fun _ => ?_) | (with_reducible refine gOps_and (fun hq => ?_) (fun hq => ?_) <;> (try simp at hq)) | (with_reducible refine gOps_or (fun hq => ?_) (fun hq => ?_) <;> (try simp at hq)) | (with_reducible refine gOps_not (fun hq => ?_) (fun hq => ?_) <;> (try simp at hq)) | (with_reducible refine gOps_split (fun hq => ?_) (fun hq => ?_) <;> (try simp at hq)) | with_reducible refine condC_dec (fun _ => ?_) (fun _ => ?_) | with_reducible refine condC_ndec (fun _ => ?_) (fun _ => ?_) | (with_reducible refine condC_and (fun hq => ?_) (fun hq => ?_) <;> (try simp at hq)) | (with_reducible refine condC_or (fun hq => ?_) (fun hq => ?_) <;> (try simp at hq)) | (with_reducible refine condC_not (fun hq => ?_) (fun hq => ?_) <;> (try simp at hq)) | (with_reducible refine condC_split (fun hq => ?_) (fun hq => ?_) <;> (try simp at hq)) | refine appK2_if (by omega) ?_ | refine pureV_if (by omega) ?_) <;> simp -implicitDefEqProofs [*])
theorem hello_room (v : View) (h1 : v.peers.length ≤ 16) (h2 : v.passive.length ≤ 16) : Den PP 190 [.mem v.cells] [] (.bool (decide (v.peers.length + v.passive.length < 16))) [] := by
  have w : IntKind.wrap .i64 ((v.peers.length : Int) + v.passive.length) = v.peers.length + v.passive.length := wrap_in (by omega) (by omega)
  have e : decide (v.peers.length + v.passive.length < 16) = decide ((v.peers.length : Int) + v.passive.length < 16) := by
    rw [decide_eq_decide]; omega
  rw [e]
  simp only [View.cells, peersD, intsD]
  refine den_of [] [] is_hello_room ?_
  simp -implicitDefEqProofs [c_hello_room, w]
def viewBox (v : View) (p q : Nat) : Blk := ⟨[[.int .i64 v.id, .ref p 0 v.peers.length, .ref q 0 v.passive.length]], 3, .box⟩
def psB (v : View) : Blk := ⟨v.peers.map Peer.row, 2, .mut⟩
def xsB (v : View) : Blk := ⟨v.passive.map irow, 1, .mut⟩
theorem hello_heard (v : View) (id : Int) (hv : viewMay v = true) (hp : place id = true) (hn : id ≠ v.id) : Den PP 120 [.ptr 0 0 0, .int .i64 id] [viewBox v 1 2, psB v, xsB v] (.tup [])
    (if roomV v id then [viewBox (knownV v id) 3 4, ⟨v.peers.map Peer.row, 2, .app⟩, ⟨v.passive.map irow, 1, .app⟩, psB (knownV v id), xsB (knownV v id)] else [viewBox v 1 2, psB v, xsB v]) := by
  obtain ⟨p1, p2, p3, p4⟩ := viewMay_parts hv
  have c1 := view_Peer v id (by unfold cap; omega) (peersMay_rowed p1)
  rw [peerIs_mem p1 hp] at c1
  have c2 := view_Passive v id (by unfold cap; omega)
  have c3 := hello_room v (by omega) (by omega)
  have c4 := passive_Without v.passive id (by unfold cap; omega)
  rw [show withoutP v.passive id = (v.passive.filter fun y => !decide (y = id), 0) by simp [withoutP, p2, hp]] at c4
  have c5 := peers_Heard v.id v.peers id (by unfold cap16; omega)
  have hk := (knownV_may hv hp hn).2
  have hkv : roomV v id = true → knownV v id = ⟨v.id, hearG v.id id false v.peers, v.passive.filter fun y => !decide (y = id)⟩ := by intro h; unfold knownV; rw [if_pos h]
  unfold viewBox psB xsB
  cases hr : roomV v id with
  | false =>
    clear hk hkv c4 c5
    simp only [Bool.false_eq_true, if_false]
    simp only [roomV, knowsV] at hr
    generalize (v.peers.map Peer.id).contains id = A at *
    generalize v.passive.contains id = B at *
    generalize decide (v.peers.length + v.passive.length < 16) = R at *
    simp only [View.cells, peersD, intsD] at c1 c2 c3
    clear p1 p2 p3 p4 hv hp hn
    simp only [Bool.or_eq_false_iff] at hr
    obtain ⟨⟨rfl, rfl⟩, rfl⟩ := hr
    refine den_of [27, 43] [] is_hello_heard ?_
    simp -implicitDefEqProofs [c_hello_heard]
    repeat' ((first | refine callThen_of (by first | exact c1 | exact c2 | exact c3) ?_ | with_reducible refine gOps_dec (fun _ => ?_) (fun _ => ?_) | with_reducible refine gOps_ndec (fun _ => ?_) (fun _ => ?_) | (with_reducible refine gOps_and (fun hq => ?_) (fun hq => ?_) <;> (try simp at hq)) | (with_reducible refine gOps_or (fun hq => ?_) (fun hq => ?_) <;> (try simp at hq)) | (with_reducible refine gOps_not (fun hq => ?_) (fun hq => ?_) <;> (try simp at hq)) | (with_reducible refine gOps_split (fun hq => ?_) (fun hq => ?_) <;> (try simp at hq)) | with_reducible refine condC_dec (fun _ => ?_) (fun _ => ?_) | with_reducible refine condC_ndec (fun _ => ?_) (fun _ => ?_) | (with_reducible refine condC_and (fun hq => ?_) (fun hq => ?_) <;> (try simp at hq)) | (with_reducible refine condC_or (fun hq => ?_) (fun hq => ?_) <;> (try simp at hq)) | (with_reducible refine condC_not (fun hq => ?_) (fun hq => ?_) <;> (try simp at hq)) | (with_reducible refine condC_split (fun hq => ?_) (fun hq => ?_) <;> (try simp at hq)) | refine appK2_if (by omega) ?_ | refine pureV_if (by omega) ?_) <;> simp -implicitDefEqProofs [*, downTo])
  | true =>
    simp only [if_true]
    rw [hkv hr]
    rw [hk hr] at c5
    clear hk hkv
    simp only [roomV, knowsV] at hr
    generalize hearG v.id id false v.peers = ps at *
    generalize (v.passive.filter fun y => !decide (y = id)) = xs at *
    generalize (v.peers.map Peer.id).contains id = A at *
    generalize v.passive.contains id = B at *
    generalize decide (v.peers.length + v.passive.length < 16) = R at *
    simp only [View.cells, peersD, intsD] at c1 c2 c3 c4 c5
    clear p1 p2 p3 p4 hv hp hn
    refine den_of [27, 43] [] is_hello_heard ?_
    cases A <;> cases B <;> cases R
    all_goals try (simp at hr; done)
    all_goals
      clear hr
      simp -implicitDefEqProofs [c_hello_heard]
      repeat' ((first | refine callThen_of (by first | exact c1 | exact c2 | exact c3 | exact c4 | exact c5) ?_ | with_reducible refine gOps_dec (fun _ => ?_) (fun _ => ?_) | with_reducible refine gOps_ndec (fun _ => ?_) (fun _ => ?_) | (with_reducible refine gOps_and (fun hq => ?_) (fun hq => ?_) <;> (try simp at hq)) | (with_reducible refine gOps_or (fun hq => ?_) (fun hq => ?_) <;> (try simp at hq)) | (with_reducible refine gOps_not (fun hq => ?_) (fun hq => ?_) <;> (try simp at hq)) | (with_reducible refine gOps_split (fun hq => ?_) (fun hq => ?_) <;> (try simp at hq)) | with_reducible refine condC_dec (fun _ => ?_) (fun _ => ?_) | with_reducible refine condC_ndec (fun _ => ?_) (fun _ => ?_) | (with_reducible refine condC_and (fun hq => ?_) (fun hq => ?_) <;> (try simp at hq)) | (with_reducible refine condC_or (fun hq => ?_) (fun hq => ?_) <;> (try simp at hq)) | (with_reducible refine condC_not (fun hq => ?_) (fun hq => ?_) <;> (try simp at hq)) | (with_reducible refine condC_split (fun hq => ?_) (fun hq => ?_) <;> (try simp at hq)) | refine appK2_if (by omega) ?_ | refine pureV_if (by omega) ?_) <;> simp -implicitDefEqProofs [*, downTo])
end Go.AM
