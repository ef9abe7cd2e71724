/- What the proof of this claim stands on, part 12. -/
import Derived.Test.YtgcajdfmilhclaaAmZ11
/- AM: contracts: what the statements' helpers do with slices. -/
namespace Go.AM
set_option linter.unusedSimpArgs false
set_option linter.unusedVariables false
set_option maxRecDepth 8000
set_option maxHeartbeats 0
theorem copy_Item (rows : List (List D)) (hf : Fits 5 rows) (hl : rows.length * 40 ≤ 140737488355328) : Den PP 40 [.sl rows rows.length] [] (.ref 0 0 rows.length) [⟨rows, 5, .mut⟩] := by
  have h63 : rows.length ≤ 9223372036854775807 := by omega
  refine den_of [] [] is_gimmallaw0_CopyItems ?_
  simp -implicitDefEqProofs [c_gimmallaw0_CopyItems, List.take_of_length_le (Nat.le_refl rows.length), hf, hl, h63]
theorem lend_Item (xs : List Item) (hl : xs.length * 40 ≤ 140737488351232) : Den PP 13 [.sl (xs.map Item.row) xs.length] [] (.ref 0 0 xs.length) [⟨xs.map Item.row ++ [(⟨0, 0, 0, 77777, false⟩ : Item), (⟨0, 0, 0, 77777, false⟩ : Item)].map Item.row, 5, .mut⟩] := by
  have c1 := copy_Item (xs.map Item.row) (by simp) (by simp; omega)
  simp only [List.length_map] at c1
  refine den_of [5] [] is_gimmallaw0_LendItems ?_
  simp -implicitDefEqProofs [c_gimmallaw0_LendItems]
  refine callThen_of c1 ?_
  simp -implicitDefEqProofs [downTo]
  refine ⟨by simp [Fits], ?_⟩
  try refine appK2_if (by omega) ?_
  simp -implicitDefEqProofs [downTo]
  refine outK_slice 0 xs.length (by simp; rfl) rfl (by first | rfl | omega | (simp [boundD]; done) | (simp [boundD]; omega) | (simp; done) | (simp; omega)) (by first | rfl | omega | (simp [boundD]; done) | (simp [boundD]; omega) | (simp; done) | (simp; omega)) (by omega) (by first | rfl | omega | (simp [boundD]; done) | (simp [boundD]; omega) | (simp; done) | (simp; omega)) rfl (by first | rfl | omega | (simp [boundD]; done) | (simp [boundD]; omega) | (simp; done) | (simp; omega)) ?_
  simp -implicitDefEqProofs [downTo, Item.row]
theorem kept_Item (xs : List Item) (hl : xs.length * 40 ≤ 140737488351232) : Den PP 23 [.sl (xs.map Item.row ++ [(⟨0, 0, 0, 77777, false⟩ : Item), (⟨0, 0, 0, 77777, false⟩ : Item)].map Item.row) xs.length, .sl (xs.map Item.row) xs.length] [] (.bool true) [] := by
  have c1 : Den PP 18 [.sl (xs.map Item.row ++ [(⟨0, 0, 0, 77777, false⟩ : Item), (⟨0, 0, 0, 77777, false⟩ : Item)].map Item.row) xs.length, .sl (xs.map Item.row) xs.length] [] (.bool true) [] := den_cut (by
    have := law_SameItems xs xs (by unfold cap; omega)
    simpa [itemsD] using this)
  have hw : IntKind.wrap .i64 ((xs.length : Int) + 2) = ((xs.length + 2 : Nat) : Int) := by rw [wrap_in (by omega) (by omega)]; omega
  have hw1 : IntKind.wrap .i64 ((xs.length : Int) + 1) = ((xs.length + 1 : Nat) : Int) := by rw [wrap_in (by omega) (by omega)]; omega
  have g1 : ((xs.map Item.row) ++ [(⟨0, 0, 0, 77777, false⟩ : Item), (⟨0, 0, 0, 77777, false⟩ : Item)].map Item.row)[xs.length]? = some (Item.row (⟨0, 0, 0, 77777, false⟩ : Item)) := by rw [List.getElem?_append_right (by simp)]; simp
  have g2 : ((xs.map Item.row) ++ [(⟨0, 0, 0, 77777, false⟩ : Item), (⟨0, 0, 0, 77777, false⟩ : Item)].map Item.row)[xs.length + 1]? = some (Item.row (⟨0, 0, 0, 77777, false⟩ : Item)) := by rw [List.getElem?_append_right (by simp)]; simp
  generalize hq : (xs.map Item.row) ++ [(⟨0, 0, 0, 77777, false⟩ : Item), (⟨0, 0, 0, 77777, false⟩ : Item)].map Item.row = q at *
  have hql : q.length = xs.length + 2 := by rw [← hq]; simp
  have hqr : ∀ r ∈ q, r.length = 5 := by
    intro r hr
    rw [← hq, ← List.map_append] at hr
    obtain ⟨a, _, rfl⟩ := List.mem_map.1 hr
    rfl
  have n1 : ((xs.length : Int) < (xs.length : Int) + 2) := by omega
  have n2 : ((xs.length : Int) + 1 < (xs.length : Int) + 2) := by omega
  have n3 : (((xs.length + 1 : Nat) : Int)).toNat = xs.length + 1 := by omega
  refine den_of [] [] is_gimmallaw0_KeptItems ?_
  simp -implicitDefEqProofs [c_gimmallaw0_KeptItems, hw]
  refine outK_sliceS 0 (xs.length + 2) (by simp; rfl) (by first | rfl | omega | (simp [boundD]; done) | (simp [boundD]; omega) | (simp; done) | (simp; omega)) (by first | rfl | omega | (simp [boundD]; done) | (simp [boundD]; omega) | (simp; done) | (simp; omega)) (by omega) (by omega) (by simpa using hqr) ?_
  simp -implicitDefEqProofs [hw, hw1]
  refine callThen_of c1 ?_
  simp -implicitDefEqProofs [hw, hw1, g1, g2, Item.row, n1, n2, n3, EQS]
  refine pureV_if (by omega) ?_
  simp -implicitDefEqProofs [hw, hw1, g1, g2, Item.row, n1, n2, n3, EQS]
def spoilItem (a : Item) : Item := { a with value := (IntKind.wrap .i64 (BitVec.ofInt IntKind.i64.bits a.value ^^^ BitVec.ofInt IntKind.i64.bits 90).toNat) }
theorem spoil_Item (xs : List Item) (hl : xs.length ≤ cap16) : Den PP 22 [.ref 0 0 xs.length] [⟨xs.map Item.row, 5, .mut⟩] (.tup []) [⟨(xs.map spoilItem).map Item.row, 5, .mut⟩] := by
  unfold cap16 at hl
  refine den_of [] [] is_gimmallaw0_SpoilItems ?_
  simp -implicitDefEqProofs [c_gimmallaw0_SpoilItems]
  refine list_rule xs (fun i rest => fun ⟨fr, bs⟩ => ∃ done, bs = [⟨(done ++ rest).map Item.row, 5, .mut⟩] ∧ done.length = i ∧ done ++ rest.map spoilItem = xs.map spoilItem ∧ fr 0 = .ref 0 0 xs.length ∧ fr 2 = .int .i64 i)
    (fun ⟨fr, bs⟩ => bs = [⟨(xs.map spoilItem).map Item.row, 5, .mut⟩]) (fun ⟨fr, bs⟩ => False) c_gimmallaw0_SpoilItems_L0.eq_1 ?_ ?_ ?_ ?_ ?_
  · exact ⟨[], rfl, rfl, rfl, rfl, rfl⟩
  · rintro i ⟨fr, bs⟩ hi ⟨done, rfl, hd, he, h0, h2⟩
    simp -implicitDefEqProofs [h0, h2, hi]
    simp at he
    simp [he]
  · rintro i a rest ⟨fr, bs⟩ hlt hget hg hd hd2 ⟨done, rfl, hdl, he, h0, h2⟩
    have hlt' : (i : Int) < xs.length := by omega
    have hw := wrap_next (n := i) (by omega)
    have h3 : ∀ (A B : List (List D)) r, A.length = i → (A ++ r :: B)[i]? = some r := by intro A B r h; simp [← h]
    have h4 : ∀ (A B : List (List D)) r r', A.length = i → (A ++ r' :: B).set i r = A ++ r :: B := by intro A B r r' h; simp [← h]
    simp -implicitDefEqProofs [h0, h2, hlt', h3, h4, hdl, Item.row, hw, reach, downTo]
    exact ⟨done ++ [spoilItem a], by first | (simp [Item.row, spoilItem]; done) | (simp [Item.row, spoilItem]; rfl), by simp [hdl], by simpa using he⟩
  · rintro ⟨fr, bs⟩ rfl
    try simp -implicitDefEqProofs
  · rintro ⟨fr, bs⟩ h
    exact h.elim
theorem copy_Cut (rows : List (List D)) (hf : Fits 2 rows) (hl : rows.length * 16 ≤ 140737488355328) : Den PP 50 [.sl rows rows.length] [] (.ref 0 0 rows.length) [⟨rows, 2, .mut⟩] := by
  have h63 : rows.length ≤ 9223372036854775807 := by omega
  refine den_of [] [] is_gimmallaw0_CopyCuts ?_
  simp -implicitDefEqProofs [c_gimmallaw0_CopyCuts, List.take_of_length_le (Nat.le_refl rows.length), hf, hl, h63]
theorem lend_Cut (xs : List Cut) (hl : xs.length * 16 ≤ 140737488351232) : Den PP 27 [.sl (xs.map Cut.row) xs.length] [] (.ref 0 0 xs.length) [⟨xs.map Cut.row ++ [(⟨77777, 0⟩ : Cut), (⟨77777, 0⟩ : Cut)].map Cut.row, 2, .mut⟩] := by
  have c1 := copy_Cut (xs.map Cut.row) (by simp) (by simp; omega)
  simp only [List.length_map] at c1
  refine den_of [5] [] is_gimmallaw0_LendCuts ?_
  simp -implicitDefEqProofs [c_gimmallaw0_LendCuts]
  refine callThen_of c1 ?_
  simp -implicitDefEqProofs [downTo]
  refine ⟨by simp [Fits], ?_⟩
  try refine appK2_if (by omega) ?_
  simp -implicitDefEqProofs [downTo]
  refine outK_slice 0 xs.length (by simp; rfl) rfl (by first | rfl | omega | (simp [boundD]; done) | (simp [boundD]; omega) | (simp; done) | (simp; omega)) (by first | rfl | omega | (simp [boundD]; done) | (simp [boundD]; omega) | (simp; done) | (simp; omega)) (by omega) (by first | rfl | omega | (simp [boundD]; done) | (simp [boundD]; omega) | (simp; done) | (simp; omega)) rfl (by first | rfl | omega | (simp [boundD]; done) | (simp [boundD]; omega) | (simp; done) | (simp; omega)) ?_
  simp -implicitDefEqProofs [downTo, Cut.row]
theorem kept_Cut (xs : List Cut) (hl : xs.length * 16 ≤ 140737488351232) : Den PP 38 [.sl (xs.map Cut.row ++ [(⟨77777, 0⟩ : Cut), (⟨77777, 0⟩ : Cut)].map Cut.row) xs.length, .sl (xs.map Cut.row) xs.length] [] (.bool true) [] := by
  have c1 : Den PP 34 [.sl (xs.map Cut.row ++ [(⟨77777, 0⟩ : Cut), (⟨77777, 0⟩ : Cut)].map Cut.row) xs.length, .sl (xs.map Cut.row) xs.length] [] (.bool true) [] := den_cut (by
    have := law_SameCuts xs xs (by unfold cap; omega)
    simpa [cutsD] using this)
  have hw : IntKind.wrap .i64 ((xs.length : Int) + 2) = ((xs.length + 2 : Nat) : Int) := by rw [wrap_in (by omega) (by omega)]; omega
  have hw1 : IntKind.wrap .i64 ((xs.length : Int) + 1) = ((xs.length + 1 : Nat) : Int) := by rw [wrap_in (by omega) (by omega)]; omega
  have g1 : ((xs.map Cut.row) ++ [(⟨77777, 0⟩ : Cut), (⟨77777, 0⟩ : Cut)].map Cut.row)[xs.length]? = some (Cut.row (⟨77777, 0⟩ : Cut)) := by rw [List.getElem?_append_right (by simp)]; simp
  have g2 : ((xs.map Cut.row) ++ [(⟨77777, 0⟩ : Cut), (⟨77777, 0⟩ : Cut)].map Cut.row)[xs.length + 1]? = some (Cut.row (⟨77777, 0⟩ : Cut)) := by rw [List.getElem?_append_right (by simp)]; simp
  generalize hq : (xs.map Cut.row) ++ [(⟨77777, 0⟩ : Cut), (⟨77777, 0⟩ : Cut)].map Cut.row = q at *
  have hql : q.length = xs.length + 2 := by rw [← hq]; simp
  have hqr : ∀ r ∈ q, r.length = 2 := by
    intro r hr
    rw [← hq, ← List.map_append] at hr
    obtain ⟨a, _, rfl⟩ := List.mem_map.1 hr
    rfl
  have n1 : ((xs.length : Int) < (xs.length : Int) + 2) := by omega
  have n2 : ((xs.length : Int) + 1 < (xs.length : Int) + 2) := by omega
  have n3 : (((xs.length + 1 : Nat) : Int)).toNat = xs.length + 1 := by omega
  refine den_of [] [] is_gimmallaw0_KeptCuts ?_
  simp -implicitDefEqProofs [c_gimmallaw0_KeptCuts, hw]
  refine outK_sliceS 0 (xs.length + 2) (by simp; rfl) (by first | rfl | omega | (simp [boundD]; done) | (simp [boundD]; omega) | (simp; done) | (simp; omega)) (by first | rfl | omega | (simp [boundD]; done) | (simp [boundD]; omega) | (simp; done) | (simp; omega)) (by omega) (by omega) (by simpa using hqr) ?_
  simp -implicitDefEqProofs [hw, hw1]
  refine callThen_of c1 ?_
  simp -implicitDefEqProofs [hw, hw1, g1, g2, Cut.row, n1, n2, n3, EQS]
  refine pureV_if (by omega) ?_
  simp -implicitDefEqProofs [hw, hw1, g1, g2, Cut.row, n1, n2, n3, EQS]
def spoilCut (a : Cut) : Cut := { a with a := (IntKind.wrap .i64 (BitVec.ofInt IntKind.i64.bits a.a ^^^ BitVec.ofInt IntKind.i64.bits 90).toNat) }
theorem spoil_Cut (xs : List Cut) (hl : xs.length ≤ cap16) : Den PP 37 [.ref 0 0 xs.length] [⟨xs.map Cut.row, 2, .mut⟩] (.tup []) [⟨(xs.map spoilCut).map Cut.row, 2, .mut⟩] := by
  unfold cap16 at hl
  refine den_of [] [] is_gimmallaw0_SpoilCuts ?_
  simp -implicitDefEqProofs [c_gimmallaw0_SpoilCuts]
  refine list_rule xs (fun i rest => fun ⟨fr, bs⟩ => ∃ done, bs = [⟨(done ++ rest).map Cut.row, 2, .mut⟩] ∧ done.length = i ∧ done ++ rest.map spoilCut = xs.map spoilCut ∧ fr 0 = .ref 0 0 xs.length ∧ fr 2 = .int .i64 i)
    (fun ⟨fr, bs⟩ => bs = [⟨(xs.map spoilCut).map Cut.row, 2, .mut⟩]) (fun ⟨fr, bs⟩ => False) c_gimmallaw0_SpoilCuts_L0.eq_1 ?_ ?_ ?_ ?_ ?_
  · exact ⟨[], rfl, rfl, rfl, rfl, rfl⟩
  · rintro i ⟨fr, bs⟩ hi ⟨done, rfl, hd, he, h0, h2⟩
    simp -implicitDefEqProofs [h0, h2, hi]
    simp at he
    simp [he]
  · rintro i a rest ⟨fr, bs⟩ hlt hget hg hd hd2 ⟨done, rfl, hdl, he, h0, h2⟩
    have hlt' : (i : Int) < xs.length := by omega
    have hw := wrap_next (n := i) (by omega)
    have h3 : ∀ (A B : List (List D)) r, A.length = i → (A ++ r :: B)[i]? = some r := by intro A B r h; simp [← h]
    have h4 : ∀ (A B : List (List D)) r r', A.length = i → (A ++ r' :: B).set i r = A ++ r :: B := by intro A B r r' h; simp [← h]
    simp -implicitDefEqProofs [h0, h2, hlt', h3, h4, hdl, Cut.row, hw, reach, downTo]
    exact ⟨done ++ [spoilCut a], by first | (simp [Cut.row, spoilCut]; done) | (simp [Cut.row, spoilCut]; rfl), by simp [hdl], by simpa using he⟩
  · rintro ⟨fr, bs⟩ rfl
    try simp -implicitDefEqProofs
  · rintro ⟨fr, bs⟩ h
    exact h.elim
end Go.AM
/- AM: what is handed in, told. -/
namespace Go.AM
set_option linter.unusedSimpArgs false
set_option linter.unusedVariables false
set_option maxRecDepth 8000
theorem tell_int {n : Nat} {cs : List D} (h : Tell TT (n + 1) 3 cs) : ∃ x, cs = [.int .i64 x] ∧ in64 x := by
  simp [Tell] at h
  obtain ⟨x, rfl, hx⟩ := h
  exact ⟨x, rfl, wf64 hx⟩
theorem tell_bool {n : Nat} {cs : List D} (h : Tell TT (n + 1) 4 cs) : ∃ x, cs = [.bool x] := by
  simpa [Tell] using h
theorem tell_ints {n : Nat} {cs : List D} (h : Tell TT (n + 2) 65 cs) : ∃ xs : List Int, cs = [intsD xs] ∧ xs.length * 8 ≤ 140737488351232 ∧ ∀ x ∈ xs, in64 x := by
  unfold Tell at h
  simp at h
  obtain ⟨rows, rfl, hl, hr⟩ := h
  obtain ⟨xs, rfl, hx⟩ := rows_of (f := irow) (Q := in64) rows fun r h => by
    obtain ⟨x, rfl, hx⟩ := tell_int (hr r h)
    exact ⟨x, rfl, hx⟩
  exact ⟨xs, by simp [intsD], by simpa using hl, hx⟩
theorem tell_Version {n : Nat} {cs : List D} (h : Tell TT (n + 2) 24 cs) : ∃ c w : Int, cs = [.int .i64 c, .int .i64 w] ∧ in64 c ∧ in64 w := by
  unfold Tell at h
  simp [Tell.TellFs] at h
  obtain ⟨a, b, rfl, h1, h2⟩ := h
  obtain ⟨x, rfl, hx⟩ := tell_int h1
  obtain ⟨y, rfl, hy⟩ := tell_int h2
  exact ⟨x, y, rfl, hx, hy⟩
def Item.tame (i : Item) : Prop := in64 i.key ∧ in64 i.count ∧ in64 i.writer ∧ in64 i.value
theorem tell_Item {n : Nat} {cs : List D} (h : Tell TT (n + 3) 26 cs) : ∃ i : Item, cs = i.row ∧ i.tame := by
  unfold Tell at h
  simp [Tell.TellFs] at h
  obtain ⟨a, r1, rfl, h1, b, r2, rfl, h2, c, d, rfl, h3, h4⟩ := h
  obtain ⟨x, rfl, hx⟩ := tell_int h1
  obtain ⟨y, z, rfl, hy, hz⟩ := tell_Version h2
  obtain ⟨u, rfl, hu⟩ := tell_int h3
  obtain ⟨g, rfl⟩ := tell_bool h4
  exact ⟨⟨x, y, z, u, g⟩, rfl, hx, hy, hz, hu⟩
theorem tell_items {n : Nat} {cs : List D} (h : Tell TT (n + 4) 22 cs) : ∃ is : List Item, cs = [itemsD is] ∧ is.length * 40 ≤ 140737488351232 ∧ ∀ i ∈ is, i.tame := by
  unfold Tell at h
  simp at h
  obtain ⟨rows, rfl, hl, hr⟩ := h
  obtain ⟨xs, rfl, hx⟩ := rows_of (f := Item.row) (Q := Item.tame) rows fun r h => tell_Item (hr r h)
  exact ⟨xs, by simp [itemsD], by simpa using hl, hx⟩
theorem arg_Item {n : Nat} {d : D} (h : TellArg TT (n + 3) 26 d) : ∃ x : Item, d = .agg x.row ∧ x.tame := by
  simp [TellArg] at h
  obtain ⟨cs, rfl, h⟩ := h
  obtain ⟨v, rfl, hv⟩ := tell_Item h
  exact ⟨v, rfl, hv⟩
theorem arg_items {n : Nat} {d : D} (h : TellArg TT (n + 4) 22 d) : ∃ x : List Item, d = itemsD x ∧ x.length * 40 ≤ 140737488351232 ∧ ∀ i ∈ x, i.tame := by
  simp [TellArg] at h
  obtain ⟨xs, hx, h2⟩ := tell_items h
  simp at hx
  exact ⟨xs, hx, h2⟩
theorem arg_ints {n : Nat} {d : D} (h : TellArg TT (n + 2) 65 d) : ∃ x : List Int, d = intsD x ∧ x.length * 8 ≤ 140737488351232 ∧ ∀ i ∈ x, in64 i := by
  simp [TellArg] at h
  obtain ⟨xs, hx, h2⟩ := tell_ints h
  simp at hx
  exact ⟨xs, hx, h2⟩
theorem arg_bool {n : Nat} {d : D} (h : TellArg TT (n + 1) 4 d) : ∃ x, d = .bool x ∧ True := by
  simp [TellArg] at h
  obtain ⟨x, hx⟩ := tell_bool h
  simp at hx
  exact ⟨x, hx, trivial⟩
theorem arg_int {n : Nat} {d : D} (h : TellArg TT (n + 1) 3 d) : ∃ x, d = .int .i64 x ∧ in64 x := by
  simp [TellArg] at h
  obtain ⟨x, hx, h2⟩ := tell_int h
  simp at hx
  exact ⟨x, hx, h2⟩
end Go.AM
/- AM: chapter 15's statements: Cutses, CutOther. -/
namespace Go.AM
set_option linter.unusedSimpArgs false
set_option linter.unusedVariables false
set_option maxRecDepth 8000
set_option maxHeartbeats 0
theorem tell_Cut {n : Nat} {cs : List D} (h : Tell TT (n + 2) 63 cs) : ∃ c : Cut, cs = c.row ∧ in64 c.a ∧ in64 c.b := by
  unfold Tell at h
  simp [Tell.TellFs] at h
  obtain ⟨a, b, rfl, h1, h2⟩ := h
  obtain ⟨x, rfl, hx⟩ := tell_int h1
  obtain ⟨u, rfl, hu⟩ := tell_int h2
  exact ⟨⟨x, u⟩, rfl, hx, hu⟩
theorem tell_cuts {n : Nat} {cs : List D} (h : Tell TT (n + 3) 48 cs) : ∃ ts : List Cut, cs = [cutsD ts] ∧ ts.length * 16 ≤ 140737488351232 ∧ ∀ t ∈ ts, in64 t.a ∧ in64 t.b := by
  unfold Tell at h
  simp at h
  obtain ⟨rows, rfl, hl, hr⟩ := h
  obtain ⟨xs, rfl, hx⟩ := rows_of (f := Cut.row) (Q := fun t => in64 t.a ∧ in64 t.b) rows fun r h => tell_Cut (hr r h)
  exact ⟨xs, by simp [cutsD], by simpa using hl, hx⟩
theorem arg_cuts {n : Nat} {d : D} (h : TellArg TT (n + 3) 48 d) : ∃ x : List Cut, d = cutsD x ∧ x.length * 16 ≤ 140737488351232 ∧ ∀ c ∈ x, in64 c.a ∧ in64 c.b := by
  simp [TellArg] at h
  obtain ⟨xs, h1, h2, h3⟩ := tell_cuts h
  simp at h1
  exact ⟨xs, h1, h2, h3⟩
theorem law15_awake : Den PP 39 [] [] (.bool true) [] := by
  have g1 := cuts_With [⟨3, 9⟩] 5 2 (by unfold cap; decide)
  have g2 := cuts_Without [⟨2, 5⟩, ⟨3, 9⟩] 9 3 (by unfold cap; decide)
  have g3 := cuts_Is [⟨2, 5⟩, ⟨3, 9⟩] 2 5 (by unfold cap; decide)
  have g4 := cuts_With [⟨2, 5⟩, ⟨3, 9⟩] 4 4 (by unfold cap; decide)
  have g5 := cuts_Is [⟨9, 3⟩] 2 5 (by unfold cap; decide)
  have g6 := law_SameCuts [⟨2, 5⟩, ⟨3, 9⟩] [⟨2, 5⟩, ⟨3, 9⟩] (by unfold cap; decide)
  have g7 := law_SameCuts [⟨2, 5⟩] [⟨2, 5⟩] (by unfold cap; decide)
  have g8 := cuts_May [⟨2, 5⟩, ⟨3, 9⟩] (by unfold cap; decide)
  rw [show withC [⟨3, 9⟩] 5 2 = ([⟨2, 5⟩, ⟨3, 9⟩], 0) by decide +kernel] at g1
  rw [show withoutC [⟨2, 5⟩, ⟨3, 9⟩] 9 3 = ([⟨2, 5⟩], 0) by decide +kernel] at g2
  rw [show isC [⟨2, 5⟩, ⟨3, 9⟩] 2 5 = (true, 0) by decide +kernel] at g3
  rw [show withC [⟨2, 5⟩, ⟨3, 9⟩] 4 4 = ([], 1500) by decide +kernel] at g4
  rw [show isC [⟨9, 3⟩] 2 5 = (false, 1500) by decide +kernel] at g5
  rw [show cutsMay [⟨2, 5⟩, ⟨3, 9⟩] = true by decide +kernel] at g8
  simp [cutsD, Cut.row] at g1 g2 g3 g4 g5 g6 g7 g8
  refine den_of [] [] is_gimmallaw15_awake ?_
  simp -implicitDefEqProofs [c_gimmallaw15_awake]
  repeat' (first | (refine callThen_of (by first | exact g1 | exact g2 | exact g3 | exact g4 | exact g5 | exact g6 | exact g7 | exact g8 | exact law_Num _) ?_; simp -implicitDefEqProofs [*, downTo]) | (with_reducible refine gOps_dec (fun _ => ?_) (fun _ => ?_) <;> simp -implicitDefEqProofs [*, downTo]) | (with_reducible refine gOps_ndec (fun _ => ?_) (fun _ => ?_) <;> simp -implicitDefEqProofs [*, downTo]) | (with_reducible refine gOps_and (fun hq => ?_) (fun hq => ?_) <;> (try simp at hq) <;> simp -implicitDefEqProofs [*, downTo]) | (with_reducible refine gOps_or (fun hq => ?_) (fun hq => ?_) <;> (try simp at hq) <;> simp -implicitDefEqProofs [*, downTo]) | (with_reducible refine gOps_not (fun hq => ?_) (fun hq => ?_) <;> (try simp at hq) <;> simp -implicitDefEqProofs [*, downTo]) | (with_reducible refine gOps_split (fun hq => ?_) (fun hq => ?_) <;> (try simp at hq) <;> simp -implicitDefEqProofs [*, downTo]) | (with_reducible refine condC_dec (fun _ => ?_) (fun _ => ?_) <;> simp -implicitDefEqProofs [*, downTo]) | (with_reducible refine condC_ndec (fun _ => ?_) (fun _ => ?_) <;> simp -implicitDefEqProofs [*, downTo]) | (with_reducible refine condC_and (fun hq => ?_) (fun hq => ?_) <;> (try simp at hq) <;> simp -implicitDefEqProofs [*, downTo]) | (with_reducible refine condC_or (fun hq => ?_) (fun hq => ?_) <;> (try simp at hq) <;> simp -implicitDefEqProofs [*, downTo]) | (with_reducible refine condC_not (fun hq => ?_) (fun hq => ?_) <;> (try simp at hq) <;> simp -implicitDefEqProofs [*, downTo]) | (with_reducible refine condC_split (fun hq => ?_) (fun hq => ?_) <;> (try simp at hq) <;> simp -implicitDefEqProofs [*, downTo]) | (refine appK2_if (by omega) ?_; simp -implicitDefEqProofs [*, downTo]) | (refine pureV_if (by omega) ?_; simp -implicitDefEqProofs [*, downTo]))
theorem law15_Cutses (cs : List Cut) (a b : Int) (hl : cs.length * 16 ≤ 140737488351232) : Den PP 9 [cutsD cs, .int .i64 a, .int .i64 b] [] (.bool true) [] := by
  have hc : cs.length ≤ cap := by unfold cap; omega
  have g0 := lend_Cut cs hl
  have g1 := cuts_With cs a b hc
  have g2 := ref_WithCut cs a b hc
  have g3 := cuts_Without cs a b hc
  have g4 := ref_WithoutCut cs a b hc
  have g5 := cuts_Is cs a b hc
  have g6 := ref_IsCut cs a b hc
  have g7 := cuts_May cs hc
  have g8 := ref_CutsMay cs hc
  have g9 := kept_Cut cs hl
  have l1 := withC_len cs a b
  have l2 := withoutC_len cs a b
  generalize withC cs a b = A at *
  obtain ⟨p, e⟩ := A
  generalize withoutC cs a b = B at *
  obtain ⟨q, f⟩ := B
  generalize isC cs a b = C at *
  obtain ⟨i, h⟩ := C
  simp only at l1 l2 g1 g2 g3 g4 g5 g6
  have g10 := law_SameCuts p p (by unfold cap; omega)
  have g11 := law_SameCuts q q (by unfold cap; omega)
  have s1 := spoil_Cut p (by unfold cap16; omega)
  have s2 := spoil_Cut q (by unfold cap16; omega)
  have cut : ∀ {f : Nat} {r : D} {bs' : List Blk} (post : List D), Den PP f (.sl (cs.map Cut.row) cs.length :: post) [] r bs' → post.map D.cut = post → Den PP f (.sl (cs.map Cut.row ++ [(⟨77777, 0⟩ : Cut), (⟨77777, 0⟩ : Cut)].map Cut.row) cs.length :: post) [] r bs' := by
    intro f r bs' post h hp
    refine den_cut ?_
    simp only [List.map_cons, D.cut, hp, take_map_app]
    exact h
  generalize cutsMay cs = M at *
  simp only [cutsD] at g0 g1 g2 g3 g4 g5 g6 g7 g8 g9 g10 g11
  have k1 := cut [.int .i64 a, .int .i64 b] g1 rfl
  have k3 := cut [.int .i64 a, .int .i64 b] g3 rfl
  have k5 := cut [.int .i64 a, .int .i64 b] g5 rfl
  have k7 := cut [] g7 rfl
  generalize hq : cs.map Cut.row ++ [(⟨77777, 0⟩ : Cut), (⟨77777, 0⟩ : Cut)].map Cut.row = z at *
  clear hq cut g1 g3 g5 g7
  refine den_of [26, 40] [104, 106] is_gimmallaw15_Cutses ?_
  simp -implicitDefEqProofs [c_gimmallaw15_Cutses, cutsD]
  refine callThen_of g0 ?_
  skip
  simp -implicitDefEqProofs [downTo]
  refine callThen_of k1 ?_
  simp -implicitDefEqProofs [downTo]
  refine callThen_of g2 ?_
  simp -implicitDefEqProofs [downTo]
  refine callThen_of k3 ?_
  simp -implicitDefEqProofs [downTo]
  refine callThen_of g4 ?_
  simp -implicitDefEqProofs [downTo]
  refine callThen_of k5 ?_
  simp -implicitDefEqProofs [downTo]
  refine callThen_of g6 ?_
  simp -implicitDefEqProofs [downTo]
  repeat' (first | (refine callThen_of (by first | exact g10 | exact g11 | exact k7 | exact g8 | exact law_Num _) ?_; simp -implicitDefEqProofs [*]) | (with_reducible refine gOps_dec (fun _ => ?_) (fun _ => ?_) <;> simp -implicitDefEqProofs [*]) | (with_reducible refine gOps_ndec (fun _ => ?_) (fun _ => ?_) <;> simp -implicitDefEqProofs [*]) | (with_reducible refine gOps_and (fun hq => ?_) (fun hq => ?_) <;> (try simp at hq) <;> simp -implicitDefEqProofs [*]) | (with_reducible refine gOps_or (fun hq => ?_) (fun hq => ?_) <;> (try simp at hq) <;> simp -implicitDefEqProofs [*]) | (with_reducible refine gOps_not (fun hq => ?_) (fun hq => ?_) <;> (try simp at hq) <;> simp -implicitDefEqProofs [*]) | (with_reducible refine gOps_split (fun hq => ?_) (fun hq => ?_) <;> (try simp at hq) <;> simp -implicitDefEqProofs [*]) | (with_reducible refine condC_dec (fun _ => ?_) (fun _ => ?_) <;> simp -implicitDefEqProofs [*]) | (with_reducible refine condC_ndec (fun _ => ?_) (fun _ => ?_) <;> simp -implicitDefEqProofs [*]) | (with_reducible refine condC_and (fun hq => ?_) (fun hq => ?_) <;> (try simp at hq) <;> simp -implicitDefEqProofs [*]) | (with_reducible refine condC_or (fun hq => ?_) (fun hq => ?_) <;> (try simp at hq) <;> simp -implicitDefEqProofs [*]) | (with_reducible refine condC_not (fun hq => ?_) (fun hq => ?_) <;> (try simp at hq) <;> simp -implicitDefEqProofs [*]) | (with_reducible refine condC_split (fun hq => ?_) (fun hq => ?_) <;> (try simp at hq) <;> simp -implicitDefEqProofs [*]) | (refine appK2_if (by omega) ?_; simp -implicitDefEqProofs [*]) | (refine pureV_if (by omega) ?_; simp -implicitDefEqProofs [*]))
  refine lendThen_frame [0] rfl (by decide) (by simp) s1 (by simp) (by simp [lentBs]) ?_
  simp -implicitDefEqProofs [framed]
  refine lendThen_frame [1] rfl (by decide) (by simp) s2 (by simp) (by simp [lentBs]) ?_
  simp -implicitDefEqProofs [framed]
  repeat' (first | (refine callThen_of (by first | exact g9 | exact law15_awake) ?_; simp -implicitDefEqProofs [*]) | (with_reducible refine gOps_dec (fun _ => ?_) (fun _ => ?_) <;> simp -implicitDefEqProofs [*]) | (with_reducible refine gOps_ndec (fun _ => ?_) (fun _ => ?_) <;> simp -implicitDefEqProofs [*]) | (with_reducible refine gOps_and (fun hq => ?_) (fun hq => ?_) <;> (try simp at hq) <;> simp -implicitDefEqProofs [*]) | (with_reducible refine gOps_or (fun hq => ?_) (fun hq => ?_) <;> (try simp at hq) <;> simp -implicitDefEqProofs [*]) | (with_reducible refine gOps_not (fun hq => ?_) (fun hq => ?_) <;> (try simp at hq) <;> simp -implicitDefEqProofs [*]) | (with_reducible refine gOps_split (fun hq => ?_) (fun hq => ?_) <;> (try simp at hq) <;> simp -implicitDefEqProofs [*]) | (with_reducible refine condC_dec (fun _ => ?_) (fun _ => ?_) <;> simp -implicitDefEqProofs [*]) | (with_reducible refine condC_ndec (fun _ => ?_) (fun _ => ?_) <;> simp -implicitDefEqProofs [*]) | (with_reducible refine condC_and (fun hq => ?_) (fun hq => ?_) <;> (try simp at hq) <;> simp -implicitDefEqProofs [*]) | (with_reducible refine condC_or (fun hq => ?_) (fun hq => ?_) <;> (try simp at hq) <;> simp -implicitDefEqProofs [*]) | (with_reducible refine condC_not (fun hq => ?_) (fun hq => ?_) <;> (try simp at hq) <;> simp -implicitDefEqProofs [*]) | (with_reducible refine condC_split (fun hq => ?_) (fun hq => ?_) <;> (try simp at hq) <;> simp -implicitDefEqProofs [*]) | (refine appK2_if (by omega) ?_; simp -implicitDefEqProofs [*]) | (refine pureV_if (by omega) ?_; simp -implicitDefEqProofs [*]))
theorem withC_cases {cs : List Cut} {a b : Int} (h : askMay cs a b = true) : withC cs a b = ([], 1501) ∨ ∃ P, withC cs a b = (P, 0) ∧ cutsMay P = true ∧ ∀ y, y ∈ P ↔ y = cutAB a b ∨ y ∈ cs := by
  obtain ⟨h1, h2, h3, h4⟩ := askMay_iff.1 h
  have hc := cutAB_ok h2 h3 h4
  unfold withC
  rw [if_pos h]
  by_cases hin : cutAB a b ∈ cs
  · rw [if_pos hin]
    refine .inr ⟨cs, rfl, h1, fun y => ⟨.inr, ?_⟩⟩
    rintro (rfl | h)
    · exact hin
    · exact h
  · rw [if_neg hin]
    by_cases h5 : cs.length = 32
    · rw [if_pos h5]; exact .inl rfl
    · rw [if_neg h5]
      exact .inr ⟨_, rfl, cutsMay_ins h1 hc hin h5, fun y => insC_mem⟩
theorem law15_CutOther (cs : List Cut) (a b c d : Int) (hl : cs.length ≤ cap) : Den PP 12 [cutsD cs, .int .i64 a, .int .i64 b, .int .i64 c, .int .i64 d] [] (.bool true) [] := by
  have g1 := cuts_With cs (a % 16) (b % 16) hl
  have g2 := cuts_Without cs (a % 16) (b % 16) hl
  have p1 : place (a % 16) = true := by rw [place_iff]; omega
  have p2 : place (b % 16) = true := by rw [place_iff]; omega
  have p3 : place (c % 16) = true := by rw [place_iff]; omega
  have p4 : place (d % 16) = true := by rw [place_iff]; omega
  cases h : askMay cs (a % 16) (b % 16) with
  | false =>
    rw [show withC cs (a % 16) (b % 16) = ([], 1500) by simp [withC, h]] at g1
    rw [show withoutC cs (a % 16) (b % 16) = ([], 1500) by simp [withoutC, h]] at g2
    simp [cutsD] at g1 g2
    refine den_of [] [] is_gimmallaw15_CutOther ?_
    simp -implicitDefEqProofs [c_gimmallaw15_CutOther, cutsD]
    repeat' (first | (refine callThen_of (by first | exact law15_awake | exact g1 | exact g2 | exact law_Num _) ?_; simp -implicitDefEqProofs [*, downTo]) | (with_reducible refine gOps_dec (fun _ => ?_) (fun _ => ?_) <;> simp -implicitDefEqProofs [*, downTo]) | (with_reducible refine gOps_ndec (fun _ => ?_) (fun _ => ?_) <;> simp -implicitDefEqProofs [*, downTo]) | (with_reducible refine gOps_and (fun hq => ?_) (fun hq => ?_) <;> (try simp at hq) <;> simp -implicitDefEqProofs [*, downTo]) | (with_reducible refine gOps_or (fun hq => ?_) (fun hq => ?_) <;> (try simp at hq) <;> simp -implicitDefEqProofs [*, downTo]) | (with_reducible refine gOps_not (fun hq => ?_) (fun hq => ?_) <;> (try simp at hq) <;> simp -implicitDefEqProofs [*, downTo]) | (with_reducible refine gOps_split (fun hq => ?_) (fun hq => ?_) <;> (try simp at hq) <;> simp -implicitDefEqProofs [*, downTo]) | (with_reducible refine condC_dec (fun _ => ?_) (fun _ => ?_) <;> simp -implicitDefEqProofs [*, downTo]) | (with_reducible refine condC_ndec (fun _ => ?_) (fun _ => ?_) <;> simp -implicitDefEqProofs [*, downTo]) | (with_reducible refine condC_and (fun hq => ?_) (fun hq => ?_) <;> (try simp at hq) <;> simp -implicitDefEqProofs [*, downTo]) | (with_reducible refine condC_or (fun hq => ?_) (fun hq => ?_) <;> (try simp at hq) <;> simp -implicitDefEqProofs [*, downTo]) | (with_reducible refine condC_not (fun hq => ?_) (fun hq => ?_) <;> (try simp at hq) <;> simp -implicitDefEqProofs [*, downTo]) | (with_reducible refine condC_split (fun hq => ?_) (fun hq => ?_) <;> (try simp at hq) <;> simp -implicitDefEqProofs [*, downTo]) | (refine appK2_if (by omega) ?_; simp -implicitDefEqProofs [*, downTo]) | (refine pureV_if (by omega) ?_; simp -implicitDefEqProofs [*, downTo]))
  | true =>
    obtain ⟨h1, _, _, h4⟩ := askMay_iff.1 h
    have hc1 := cutAB_ok p1 p2 h4
    have hmf : cutsMay (cs.filter fun x => !decide (x = cutAB (a % 16) (b % 16))) = true := cutsMay_filter h1
    have hlf := List.length_filter_le (fun x => !decide (x = cutAB (a % 16) (b % 16))) cs
    have m2 := cuts_May (cs.filter fun x => !decide (x = cutAB (a % 16) (b % 16))) (by omega)
    rw [hmf] at m2
    have g3 := cuts_Is cs (c % 16) (d % 16) hl
    have g4 := cuts_Is (cs.filter fun x => !decide (x = cutAB (a % 16) (b % 16))) (c % 16) (d % 16) (by omega)
    rw [show withoutC cs (a % 16) (b % 16) = (cs.filter fun x => !decide (x = cutAB (a % 16) (b % 16)), 0) by simp [withoutC, h]] at g2
    by_cases hyz : c % 16 = d % 16
    · generalize withC cs (a % 16) (b % 16) = W at *
      generalize (cs.filter fun x => !decide (x = cutAB (a % 16) (b % 16))) = F at *
      obtain ⟨P, e⟩ := W
      simp only [cutsD] at g1 g2
      refine den_of [] [] is_gimmallaw15_CutOther ?_
      simp -implicitDefEqProofs [c_gimmallaw15_CutOther, cutsD]
      repeat' (first | (refine callThen_of (by first | exact law15_awake | exact g1 | exact g2 | exact law_Num _) ?_; simp -implicitDefEqProofs [*, downTo, hyz]) | (with_reducible refine gOps_dec (fun _ => ?_) (fun _ => ?_) <;> simp -implicitDefEqProofs [*, downTo, hyz]) | (with_reducible refine gOps_ndec (fun _ => ?_) (fun _ => ?_) <;> simp -implicitDefEqProofs [*, downTo, hyz]) | (with_reducible refine gOps_and (fun hq => ?_) (fun hq => ?_) <;> (try simp at hq) <;> simp -implicitDefEqProofs [*, downTo, hyz]) | (with_reducible refine gOps_or (fun hq => ?_) (fun hq => ?_) <;> (try simp at hq) <;> simp -implicitDefEqProofs [*, downTo, hyz]) | (with_reducible refine gOps_not (fun hq => ?_) (fun hq => ?_) <;> (try simp at hq) <;> simp -implicitDefEqProofs [*, downTo, hyz]) | (with_reducible refine gOps_split (fun hq => ?_) (fun hq => ?_) <;> (try simp at hq) <;> simp -implicitDefEqProofs [*, downTo, hyz]) | (with_reducible refine condC_dec (fun _ => ?_) (fun _ => ?_) <;> simp -implicitDefEqProofs [*, downTo, hyz]) | (with_reducible refine condC_ndec (fun _ => ?_) (fun _ => ?_) <;> simp -implicitDefEqProofs [*, downTo, hyz]) | (with_reducible refine condC_and (fun hq => ?_) (fun hq => ?_) <;> (try simp at hq) <;> simp -implicitDefEqProofs [*, downTo, hyz]) | (with_reducible refine condC_or (fun hq => ?_) (fun hq => ?_) <;> (try simp at hq) <;> simp -implicitDefEqProofs [*, downTo, hyz]) | (with_reducible refine condC_not (fun hq => ?_) (fun hq => ?_) <;> (try simp at hq) <;> simp -implicitDefEqProofs [*, downTo, hyz]) | (with_reducible refine condC_split (fun hq => ?_) (fun hq => ?_) <;> (try simp at hq) <;> simp -implicitDefEqProofs [*, downTo, hyz]) | (refine appK2_if (by omega) ?_; simp -implicitDefEqProofs [*, downTo, hyz]) | (refine pureV_if (by omega) ?_; simp -implicitDefEqProofs [*, downTo, hyz]))
    · have ak1 : askMay cs (c % 16) (d % 16) = true := askMay_iff.2 ⟨h1, p3, p4, hyz⟩
      have ak2 : askMay (cs.filter fun x => !decide (x = cutAB (a % 16) (b % 16))) (c % 16) (d % 16) = true := askMay_iff.2 ⟨hmf, p3, p4, hyz⟩
      rw [show isC cs (c % 16) (d % 16) = (decide (cutAB (c % 16) (d % 16) ∈ cs), 0) by simp [isC, ak1]] at g3
      rw [show isC (cs.filter fun x => !decide (x = cutAB (a % 16) (b % 16))) (c % 16) (d % 16) = (decide (cutAB (c % 16) (d % 16) ∈ cs) && !decide (cutAB (c % 16) (d % 16) = cutAB (a % 16) (b % 16)), 0) by simp [isC, ak2]] at g4
      generalize (cs.filter fun x => !decide (x = cutAB (a % 16) (b % 16))) = F at *
      have hw := withC_cases h
      have hab : cutAB (a % 16) (b % 16) = ⟨min (a % 16) (b % 16), max (a % 16) (b % 16)⟩ := rfl
      have hcd : cutAB (c % 16) (d % 16) = ⟨min (c % 16) (d % 16), max (c % 16) (d % 16)⟩ := rfl
      have hcc : cutAB (c % 16) (d % 16) = cutAB (a % 16) (b % 16) ↔ min (a % 16) (b % 16) = min (c % 16) (d % 16) ∧ max (a % 16) (b % 16) = max (c % 16) (d % 16) := by
        rw [hab, hcd, Cut.mk.injEq]
        exact ⟨fun ⟨x, y⟩ => ⟨x.symm, y.symm⟩, fun ⟨x, y⟩ => ⟨x.symm, y.symm⟩⟩
      clear h h1 h4 hc1 hmf hlf p1 p2 ak1 ak2 hab hcd
      have hP : ∀ P, cutsMay P = true → Den PP 32 [cutsD P, .int .i64 (c % 16), .int .i64 (d % 16)] [] (.tup [.bool (decide (cutAB (c % 16) (d % 16) ∈ P)), .int .i64 0]) [] ∧ Den PP 35 [cutsD P] [] (.bool true) [] := by
        intro P hm
        have h32 := (cutsMay_iff.1 hm).2.2
        have k1 := cuts_Is P (c % 16) (d % 16) (by unfold cap; omega)
        have k2 := cuts_May P (by unfold cap; omega)
        rw [hm] at k2
        rw [show isC P (c % 16) (d % 16) = (decide (cutAB (c % 16) (d % 16) ∈ P), 0) by simp [isC, askMay_iff.2 ⟨hm, p3, p4, hyz⟩]] at k1
        exact ⟨k1, k2⟩
      have hcs : cutAB (c % 16) (d % 16) = cutAB (a % 16) (b % 16) → decide (cutAB (c % 16) (d % 16) ∈ cs) = decide (cutAB (a % 16) (b % 16) ∈ cs) := fun e => by rw [e]
      rcases hw with hw | ⟨P, hw, hPm, hPi⟩
      · rw [hw] at g1
        simp only [cutsD] at g1 g2 g3 g4 m2
        simp at g1
        clear hw hP hcs
        generalize decide (cutAB (c % 16) (d % 16) ∈ cs) = O at *
        refine den_of [] [] is_gimmallaw15_CutOther ?_
        by_cases e1 : min (a % 16) (b % 16) = min (c % 16) (d % 16)
        · by_cases e2 : max (a % 16) (b % 16) = max (c % 16) (d % 16)
          · have hs := hcc.2 ⟨e1, e2⟩
            simp [hs] at g4 
            clear hcc hs
            simp -implicitDefEqProofs [c_gimmallaw15_CutOther, cutsD]
            repeat' (first | (refine callThen_of (by first | exact law15_awake | exact g1 | exact g2 | exact g3 | exact g4 | exact law_Num _) ?_; simp -implicitDefEqProofs [*, downTo, hyz]) | (with_reducible refine gOps_dec (fun _ => ?_) (fun _ => ?_) <;> simp -implicitDefEqProofs [*, downTo, hyz]) | (with_reducible refine gOps_ndec (fun _ => ?_) (fun _ => ?_) <;> simp -implicitDefEqProofs [*, downTo, hyz]) | (with_reducible refine gOps_and (fun hq => ?_) (fun hq => ?_) <;> (try simp at hq) <;> simp -implicitDefEqProofs [*, downTo, hyz]) | (with_reducible refine gOps_or (fun hq => ?_) (fun hq => ?_) <;> (try simp at hq) <;> simp -implicitDefEqProofs [*, downTo, hyz]) | (with_reducible refine gOps_not (fun hq => ?_) (fun hq => ?_) <;> (try simp at hq) <;> simp -implicitDefEqProofs [*, downTo, hyz]) | (with_reducible refine gOps_split (fun hq => ?_) (fun hq => ?_) <;> (try simp at hq) <;> simp -implicitDefEqProofs [*, downTo, hyz]) | (with_reducible refine condC_dec (fun _ => ?_) (fun _ => ?_) <;> simp -implicitDefEqProofs [*, downTo, hyz]) | (with_reducible refine condC_ndec (fun _ => ?_) (fun _ => ?_) <;> simp -implicitDefEqProofs [*, downTo, hyz]) | (with_reducible refine condC_and (fun hq => ?_) (fun hq => ?_) <;> (try simp at hq) <;> simp -implicitDefEqProofs [*, downTo, hyz]) | (with_reducible refine condC_or (fun hq => ?_) (fun hq => ?_) <;> (try simp at hq) <;> simp -implicitDefEqProofs [*, downTo, hyz]) | (with_reducible refine condC_not (fun hq => ?_) (fun hq => ?_) <;> (try simp at hq) <;> simp -implicitDefEqProofs [*, downTo, hyz]) | (with_reducible refine condC_split (fun hq => ?_) (fun hq => ?_) <;> (try simp at hq) <;> simp -implicitDefEqProofs [*, downTo, hyz]) | (refine appK2_if (by omega) ?_; simp -implicitDefEqProofs [*, downTo, hyz]) | (refine pureV_if (by omega) ?_; simp -implicitDefEqProofs [*, downTo, hyz]))
            all_goals simp -implicitDefEqProofs [minL, minF, ite_min, ite_max, ite_max2, e1, e2]
            all_goals repeat' (first | (refine callThen_of (by first | exact law_Num _) ?_; simp -implicitDefEqProofs [*, downTo, hyz, minL, minF, ite_min, ite_max, ite_max2, e1, e2]) | (with_reducible refine gOps_dec (fun _ => ?_) (fun _ => ?_) <;> simp -implicitDefEqProofs [*, downTo, hyz, minL, minF, ite_min, ite_max, ite_max2, e1, e2]) | (with_reducible refine gOps_ndec (fun _ => ?_) (fun _ => ?_) <;> simp -implicitDefEqProofs [*, downTo, hyz, minL, minF, ite_min, ite_max, ite_max2, e1, e2]) | (with_reducible refine gOps_and (fun hq => ?_) (fun hq => ?_) <;> (try simp at hq) <;> simp -implicitDefEqProofs [*, downTo, hyz, minL, minF, ite_min, ite_max, ite_max2, e1, e2]) | (with_reducible refine gOps_or (fun hq => ?_) (fun hq => ?_) <;> (try simp at hq) <;> simp -implicitDefEqProofs [*, downTo, hyz, minL, minF, ite_min, ite_max, ite_max2, e1, e2]) | (with_reducible refine gOps_not (fun hq => ?_) (fun hq => ?_) <;> (try simp at hq) <;> simp -implicitDefEqProofs [*, downTo, hyz, minL, minF, ite_min, ite_max, ite_max2, e1, e2]) | (with_reducible refine gOps_split (fun hq => ?_) (fun hq => ?_) <;> (try simp at hq) <;> simp -implicitDefEqProofs [*, downTo, hyz, minL, minF, ite_min, ite_max, ite_max2, e1, e2]) | (with_reducible refine condC_dec (fun _ => ?_) (fun _ => ?_) <;> simp -implicitDefEqProofs [*, downTo, hyz, minL, minF, ite_min, ite_max, ite_max2, e1, e2]) | (with_reducible refine condC_ndec (fun _ => ?_) (fun _ => ?_) <;> simp -implicitDefEqProofs [*, downTo, hyz, minL, minF, ite_min, ite_max, ite_max2, e1, e2]) | (with_reducible refine condC_and (fun hq => ?_) (fun hq => ?_) <;> (try simp at hq) <;> simp -implicitDefEqProofs [*, downTo, hyz, minL, minF, ite_min, ite_max, ite_max2, e1, e2]) | (with_reducible refine condC_or (fun hq => ?_) (fun hq => ?_) <;> (try simp at hq) <;> simp -implicitDefEqProofs [*, downTo, hyz, minL, minF, ite_min, ite_max, ite_max2, e1, e2]) | (with_reducible refine condC_not (fun hq => ?_) (fun hq => ?_) <;> (try simp at hq) <;> simp -implicitDefEqProofs [*, downTo, hyz, minL, minF, ite_min, ite_max, ite_max2, e1, e2]) | (with_reducible refine condC_split (fun hq => ?_) (fun hq => ?_) <;> (try simp at hq) <;> simp -implicitDefEqProofs [*, downTo, hyz, minL, minF, ite_min, ite_max, ite_max2, e1, e2]) | (refine appK2_if (by omega) ?_; simp -implicitDefEqProofs [*, downTo, hyz, minL, minF, ite_min, ite_max, ite_max2, e1, e2]) | (refine pureV_if (by omega) ?_; simp -implicitDefEqProofs [*, downTo, hyz, minL, minF, ite_min, ite_max, ite_max2, e1, e2]))
          · have hs : ¬ cutAB (c % 16) (d % 16) = cutAB (a % 16) (b % 16) := fun e => e2 (hcc.1 e).2
            simp [hs] at g4 
            clear hcc hs
            cases O
            all_goals
              simp -implicitDefEqProofs [c_gimmallaw15_CutOther, cutsD]
              repeat' (first | (refine callThen_of (by first | exact law15_awake | exact g1 | exact g2 | exact g3 | exact g4 | exact law_Num _) ?_; simp -implicitDefEqProofs [*, downTo, hyz]) | (with_reducible refine gOps_dec (fun _ => ?_) (fun _ => ?_) <;> simp -implicitDefEqProofs [*, downTo, hyz]) | (with_reducible refine gOps_ndec (fun _ => ?_) (fun _ => ?_) <;> simp -implicitDefEqProofs [*, downTo, hyz]) | (with_reducible refine gOps_and (fun hq => ?_) (fun hq => ?_) <;> (try simp at hq) <;> simp -implicitDefEqProofs [*, downTo, hyz]) | (with_reducible refine gOps_or (fun hq => ?_) (fun hq => ?_) <;> (try simp at hq) <;> simp -implicitDefEqProofs [*, downTo, hyz]) | (with_reducible refine gOps_not (fun hq => ?_) (fun hq => ?_) <;> (try simp at hq) <;> simp -implicitDefEqProofs [*, downTo, hyz]) | (with_reducible refine gOps_split (fun hq => ?_) (fun hq => ?_) <;> (try simp at hq) <;> simp -implicitDefEqProofs [*, downTo, hyz]) | (with_reducible refine condC_dec (fun _ => ?_) (fun _ => ?_) <;> simp -implicitDefEqProofs [*, downTo, hyz]) | (with_reducible refine condC_ndec (fun _ => ?_) (fun _ => ?_) <;> simp -implicitDefEqProofs [*, downTo, hyz]) | (with_reducible refine condC_and (fun hq => ?_) (fun hq => ?_) <;> (try simp at hq) <;> simp -implicitDefEqProofs [*, downTo, hyz]) | (with_reducible refine condC_or (fun hq => ?_) (fun hq => ?_) <;> (try simp at hq) <;> simp -implicitDefEqProofs [*, downTo, hyz]) | (with_reducible refine condC_not (fun hq => ?_) (fun hq => ?_) <;> (try simp at hq) <;> simp -implicitDefEqProofs [*, downTo, hyz]) | (with_reducible refine condC_split (fun hq => ?_) (fun hq => ?_) <;> (try simp at hq) <;> simp -implicitDefEqProofs [*, downTo, hyz]) | (refine appK2_if (by omega) ?_; simp -implicitDefEqProofs [*, downTo, hyz]) | (refine pureV_if (by omega) ?_; simp -implicitDefEqProofs [*, downTo, hyz]))
              all_goals simp -implicitDefEqProofs [minL, minF, ite_min, ite_max, ite_max2, e1, e2]
              all_goals repeat' (first | (refine callThen_of (by first | exact law_Num _) ?_; simp -implicitDefEqProofs [*, downTo, hyz, minL, minF, ite_min, ite_max, ite_max2, e1, e2]) | (with_reducible refine gOps_dec (fun _ => ?_) (fun _ => ?_) <;> simp -implicitDefEqProofs [*, downTo, hyz, minL, minF, ite_min, ite_max, ite_max2, e1, e2]) | (with_reducible refine gOps_ndec (fun _ => ?_) (fun _ => ?_) <;> simp -implicitDefEqProofs [*, downTo, hyz, minL, minF, ite_min, ite_max, ite_max2, e1, e2]) | (with_reducible refine gOps_and (fun hq => ?_) (fun hq => ?_) <;> (try simp at hq) <;> simp -implicitDefEqProofs [*, downTo, hyz, minL, minF, ite_min, ite_max, ite_max2, e1, e2]) | (with_reducible refine gOps_or (fun hq => ?_) (fun hq => ?_) <;> (try simp at hq) <;> simp -implicitDefEqProofs [*, downTo, hyz, minL, minF, ite_min, ite_max, ite_max2, e1, e2]) | (with_reducible refine gOps_not (fun hq => ?_) (fun hq => ?_) <;> (try simp at hq) <;> simp -implicitDefEqProofs [*, downTo, hyz, minL, minF, ite_min, ite_max, ite_max2, e1, e2]) | (with_reducible refine gOps_split (fun hq => ?_) (fun hq => ?_) <;> (try simp at hq) <;> simp -implicitDefEqProofs [*, downTo, hyz, minL, minF, ite_min, ite_max, ite_max2, e1, e2]) | (with_reducible refine condC_dec (fun _ => ?_) (fun _ => ?_) <;> simp -implicitDefEqProofs [*, downTo, hyz, minL, minF, ite_min, ite_max, ite_max2, e1, e2]) | (with_reducible refine condC_ndec (fun _ => ?_) (fun _ => ?_) <;> simp -implicitDefEqProofs [*, downTo, hyz, minL, minF, ite_min, ite_max, ite_max2, e1, e2]) | (with_reducible refine condC_and (fun hq => ?_) (fun hq => ?_) <;> (try simp at hq) <;> simp -implicitDefEqProofs [*, downTo, hyz, minL, minF, ite_min, ite_max, ite_max2, e1, e2]) | (with_reducible refine condC_or (fun hq => ?_) (fun hq => ?_) <;> (try simp at hq) <;> simp -implicitDefEqProofs [*, downTo, hyz, minL, minF, ite_min, ite_max, ite_max2, e1, e2]) | (with_reducible refine condC_not (fun hq => ?_) (fun hq => ?_) <;> (try simp at hq) <;> simp -implicitDefEqProofs [*, downTo, hyz, minL, minF, ite_min, ite_max, ite_max2, e1, e2]) | (with_reducible refine condC_split (fun hq => ?_) (fun hq => ?_) <;> (try simp at hq) <;> simp -implicitDefEqProofs [*, downTo, hyz, minL, minF, ite_min, ite_max, ite_max2, e1, e2]) | (refine appK2_if (by omega) ?_; simp -implicitDefEqProofs [*, downTo, hyz, minL, minF, ite_min, ite_max, ite_max2, e1, e2]) | (refine pureV_if (by omega) ?_; simp -implicitDefEqProofs [*, downTo, hyz, minL, minF, ite_min, ite_max, ite_max2, e1, e2]))
        · have hs : ¬ cutAB (c % 16) (d % 16) = cutAB (a % 16) (b % 16) := fun e => e1 (hcc.1 e).1
          simp [hs] at g4 
          clear hcc hs
          cases O
          all_goals
            simp -implicitDefEqProofs [c_gimmallaw15_CutOther, cutsD]
            repeat' (first | (refine callThen_of (by first | exact law15_awake | exact g1 | exact g2 | exact g3 | exact g4 | exact law_Num _) ?_; simp -implicitDefEqProofs [*, downTo, hyz]) | (with_reducible refine gOps_dec (fun _ => ?_) (fun _ => ?_) <;> simp -implicitDefEqProofs [*, downTo, hyz]) | (with_reducible refine gOps_ndec (fun _ => ?_) (fun _ => ?_) <;> simp -implicitDefEqProofs [*, downTo, hyz]) | (with_reducible refine gOps_and (fun hq => ?_) (fun hq => ?_) <;> (try simp at hq) <;> simp -implicitDefEqProofs [*, downTo, hyz]) | (with_reducible refine gOps_or (fun hq => ?_) (fun hq => ?_) <;> (try simp at hq) <;> simp -implicitDefEqProofs [*, downTo, hyz]) | (with_reducible refine gOps_not (fun hq => ?_) (fun hq => ?_) <;> (try simp at hq) <;> simp -implicitDefEqProofs [*, downTo, hyz]) | (with_reducible refine gOps_split (fun hq => ?_) (fun hq => ?_) <;> (try simp at hq) <;> simp -implicitDefEqProofs [*, downTo, hyz]) | (with_reducible refine condC_dec (fun _ => ?_) (fun _ => ?_) <;> simp -implicitDefEqProofs [*, downTo, hyz]) | (with_reducible refine condC_ndec (fun _ => ?_) (fun _ => ?_) <;> simp -implicitDefEqProofs [*, downTo, hyz]) | (with_reducible refine condC_and (fun hq => ?_) (fun hq => ?_) <;> (try simp at hq) <;> simp -implicitDefEqProofs [*, downTo, hyz]) | (with_reducible refine condC_or (fun hq => ?_) (fun hq => ?_) <;> (try simp at hq) <;> simp -implicitDefEqProofs [*, downTo, hyz]) | (with_reducible refine condC_not (fun hq => ?_) (fun hq => ?_) <;> (try simp at hq) <;> simp -implicitDefEqProofs [*, downTo, hyz]) | (with_reducible refine condC_split (fun hq => ?_) (fun hq => ?_) <;> (try simp at hq) <;> simp -implicitDefEqProofs [*, downTo, hyz]) | (refine appK2_if (by omega) ?_; simp -implicitDefEqProofs [*, downTo, hyz]) | (refine pureV_if (by omega) ?_; simp -implicitDefEqProofs [*, downTo, hyz]))
            all_goals simp -implicitDefEqProofs [minL, minF, ite_min, ite_max, ite_max2, e1]
            all_goals repeat' (first | (refine callThen_of (by first | exact law_Num _) ?_; simp -implicitDefEqProofs [*, downTo, hyz, minL, minF, ite_min, ite_max, ite_max2, e1]) | (with_reducible refine gOps_dec (fun _ => ?_) (fun _ => ?_) <;> simp -implicitDefEqProofs [*, downTo, hyz, minL, minF, ite_min, ite_max, ite_max2, e1]) | (with_reducible refine gOps_ndec (fun _ => ?_) (fun _ => ?_) <;> simp -implicitDefEqProofs [*, downTo, hyz, minL, minF, ite_min, ite_max, ite_max2, e1]) | (with_reducible refine gOps_and (fun hq => ?_) (fun hq => ?_) <;> (try simp at hq) <;> simp -implicitDefEqProofs [*, downTo, hyz, minL, minF, ite_min, ite_max, ite_max2, e1]) | (with_reducible refine gOps_or (fun hq => ?_) (fun hq => ?_) <;> (try simp at hq) <;> simp -implicitDefEqProofs [*, downTo, hyz, minL, minF, ite_min, ite_max, ite_max2, e1]) | (with_reducible refine gOps_not (fun hq => ?_) (fun hq => ?_) <;> (try simp at hq) <;> simp -implicitDefEqProofs [*, downTo, hyz, minL, minF, ite_min, ite_max, ite_max2, e1]) | (with_reducible refine gOps_split (fun hq => ?_) (fun hq => ?_) <;> (try simp at hq) <;> simp -implicitDefEqProofs [*, downTo, hyz, minL, minF, ite_min, ite_max, ite_max2, e1]) | (with_reducible refine condC_dec (fun _ => ?_) (fun _ => ?_) <;> simp -implicitDefEqProofs [*, downTo, hyz, minL, minF, ite_min, ite_max, ite_max2, e1]) | (with_reducible refine condC_ndec (fun _ => ?_) (fun _ => ?_) <;> simp -implicitDefEqProofs [*, downTo, hyz, minL, minF, ite_min, ite_max, ite_max2, e1]) | (with_reducible refine condC_and (fun hq => ?_) (fun hq => ?_) <;> (try simp at hq) <;> simp -implicitDefEqProofs [*, downTo, hyz, minL, minF, ite_min, ite_max, ite_max2, e1]) | (with_reducible refine condC_or (fun hq => ?_) (fun hq => ?_) <;> (try simp at hq) <;> simp -implicitDefEqProofs [*, downTo, hyz, minL, minF, ite_min, ite_max, ite_max2, e1]) | (with_reducible refine condC_not (fun hq => ?_) (fun hq => ?_) <;> (try simp at hq) <;> simp -implicitDefEqProofs [*, downTo, hyz, minL, minF, ite_min, ite_max, ite_max2, e1]) | (with_reducible refine condC_split (fun hq => ?_) (fun hq => ?_) <;> (try simp at hq) <;> simp -implicitDefEqProofs [*, downTo, hyz, minL, minF, ite_min, ite_max, ite_max2, e1]) | (refine appK2_if (by omega) ?_; simp -implicitDefEqProofs [*, downTo, hyz, minL, minF, ite_min, ite_max, ite_max2, e1]) | (refine pureV_if (by omega) ?_; simp -implicitDefEqProofs [*, downTo, hyz, minL, minF, ite_min, ite_max, ite_max2, e1]))
      · rw [hw] at g1
        obtain ⟨g5, m1⟩ := hP P hPm
        have hPd : decide (cutAB (c % 16) (d % 16) ∈ P) = (decide (cutAB (c % 16) (d % 16) = cutAB (a % 16) (b % 16)) || decide (cutAB (c % 16) (d % 16) ∈ cs)) := by
          rw [Bool.eq_iff_iff]
          simp [hPi]
        rw [hPd] at g5
        simp only [cutsD] at g1 g2 g3 g4 g5 m1 m2
        clear hw hP hcs hPd hPi hPm
        generalize decide (cutAB (c % 16) (d % 16) ∈ cs) = O at *
        refine den_of [] [] is_gimmallaw15_CutOther ?_
        by_cases e1 : min (a % 16) (b % 16) = min (c % 16) (d % 16)
        · by_cases e2 : max (a % 16) (b % 16) = max (c % 16) (d % 16)
          · have hs := hcc.2 ⟨e1, e2⟩
            simp [hs] at g4 g5
            clear hcc hs
            simp -implicitDefEqProofs [c_gimmallaw15_CutOther, cutsD]
            repeat' (first | (refine callThen_of (by first | exact law15_awake | exact g1 | exact g2 | exact g3 | exact g4 | exact law_Num _) ?_; simp -implicitDefEqProofs [*, downTo, hyz]) | (with_reducible refine gOps_dec (fun _ => ?_) (fun _ => ?_) <;> simp -implicitDefEqProofs [*, downTo, hyz]) | (with_reducible refine gOps_ndec (fun _ => ?_) (fun _ => ?_) <;> simp -implicitDefEqProofs [*, downTo, hyz]) | (with_reducible refine gOps_and (fun hq => ?_) (fun hq => ?_) <;> (try simp at hq) <;> simp -implicitDefEqProofs [*, downTo, hyz]) | (with_reducible refine gOps_or (fun hq => ?_) (fun hq => ?_) <;> (try simp at hq) <;> simp -implicitDefEqProofs [*, downTo, hyz]) | (with_reducible refine gOps_not (fun hq => ?_) (fun hq => ?_) <;> (try simp at hq) <;> simp -implicitDefEqProofs [*, downTo, hyz]) | (with_reducible refine gOps_split (fun hq => ?_) (fun hq => ?_) <;> (try simp at hq) <;> simp -implicitDefEqProofs [*, downTo, hyz]) | (with_reducible refine condC_dec (fun _ => ?_) (fun _ => ?_) <;> simp -implicitDefEqProofs [*, downTo, hyz]) | (with_reducible refine condC_ndec (fun _ => ?_) (fun _ => ?_) <;> simp -implicitDefEqProofs [*, downTo, hyz]) | (with_reducible refine condC_and (fun hq => ?_) (fun hq => ?_) <;> (try simp at hq) <;> simp -implicitDefEqProofs [*, downTo, hyz]) | (with_reducible refine condC_or (fun hq => ?_) (fun hq => ?_) <;> (try simp at hq) <;> simp -implicitDefEqProofs [*, downTo, hyz]) | (with_reducible refine condC_not (fun hq => ?_) (fun hq => ?_) <;> (try simp at hq) <;> simp -implicitDefEqProofs [*, downTo, hyz]) | (with_reducible refine condC_split (fun hq => ?_) (fun hq => ?_) <;> (try simp at hq) <;> simp -implicitDefEqProofs [*, downTo, hyz]) | (refine appK2_if (by omega) ?_; simp -implicitDefEqProofs [*, downTo, hyz]) | (refine pureV_if (by omega) ?_; simp -implicitDefEqProofs [*, downTo, hyz]))
            all_goals simp -implicitDefEqProofs [minL, minF, ite_min, ite_max, ite_max2, e1, e2]
            all_goals repeat' (first | (refine callThen_of (by first | exact g5 | exact m1 | exact m2 | exact law_Num _) ?_; simp -implicitDefEqProofs [*, downTo, hyz, minL, minF, ite_min, ite_max, ite_max2, e1, e2]) | (with_reducible refine gOps_dec (fun _ => ?_) (fun _ => ?_) <;> simp -implicitDefEqProofs [*, downTo, hyz, minL, minF, ite_min, ite_max, ite_max2, e1, e2]) | (with_reducible refine gOps_ndec (fun _ => ?_) (fun _ => ?_) <;> simp -implicitDefEqProofs [*, downTo, hyz, minL, minF, ite_min, ite_max, ite_max2, e1, e2]) | (with_reducible refine gOps_and (fun hq => ?_) (fun hq => ?_) <;> (try simp at hq) <;> simp -implicitDefEqProofs [*, downTo, hyz, minL, minF, ite_min, ite_max, ite_max2, e1, e2]) | (with_reducible refine gOps_or (fun hq => ?_) (fun hq => ?_) <;> (try simp at hq) <;> simp -implicitDefEqProofs [*, downTo, hyz, minL, minF, ite_min, ite_max, ite_max2, e1, e2]) | (with_reducible refine gOps_not (fun hq => ?_) (fun hq => ?_) <;> (try simp at hq) <;> simp -implicitDefEqProofs [*, downTo, hyz, minL, minF, ite_min, ite_max, ite_max2, e1, e2]) | (with_reducible refine gOps_split (fun hq => ?_) (fun hq => ?_) <;> (try simp at hq) <;> simp -implicitDefEqProofs [*, downTo, hyz, minL, minF, ite_min, ite_max, ite_max2, e1, e2]) | (with_reducible refine condC_dec (fun _ => ?_) (fun _ => ?_) <;> simp -implicitDefEqProofs [*, downTo, hyz, minL, minF, ite_min, ite_max, ite_max2, e1, e2]) | (with_reducible refine condC_ndec (fun _ => ?_) (fun _ => ?_) <;> simp -implicitDefEqProofs [*, downTo, hyz, minL, minF, ite_min, ite_max, ite_max2, e1, e2]) | (with_reducible refine condC_and (fun hq => ?_) (fun hq => ?_) <;> (try simp at hq) <;> simp -implicitDefEqProofs [*, downTo, hyz, minL, minF, ite_min, ite_max, ite_max2, e1, e2]) | (with_reducible refine condC_or (fun hq => ?_) (fun hq => ?_) <;> (try simp at hq) <;> simp -implicitDefEqProofs [*, downTo, hyz, minL, minF, ite_min, ite_max, ite_max2, e1, e2]) | (with_reducible refine condC_not (fun hq => ?_) (fun hq => ?_) <;> (try simp at hq) <;> simp -implicitDefEqProofs [*, downTo, hyz, minL, minF, ite_min, ite_max, ite_max2, e1, e2]) | (with_reducible refine condC_split (fun hq => ?_) (fun hq => ?_) <;> (try simp at hq) <;> simp -implicitDefEqProofs [*, downTo, hyz, minL, minF, ite_min, ite_max, ite_max2, e1, e2]) | (refine appK2_if (by omega) ?_; simp -implicitDefEqProofs [*, downTo, hyz, minL, minF, ite_min, ite_max, ite_max2, e1, e2]) | (refine pureV_if (by omega) ?_; simp -implicitDefEqProofs [*, downTo, hyz, minL, minF, ite_min, ite_max, ite_max2, e1, e2]))
          · have hs : ¬ cutAB (c % 16) (d % 16) = cutAB (a % 16) (b % 16) := fun e => e2 (hcc.1 e).2
            simp [hs] at g4 g5
            clear hcc hs
            cases O
            all_goals
              simp -implicitDefEqProofs [c_gimmallaw15_CutOther, cutsD]
              repeat' (first | (refine callThen_of (by first | exact law15_awake | exact g1 | exact g2 | exact g3 | exact g4 | exact law_Num _) ?_; simp -implicitDefEqProofs [*, downTo, hyz]) | (with_reducible refine gOps_dec (fun _ => ?_) (fun _ => ?_) <;> simp -implicitDefEqProofs [*, downTo, hyz]) | (with_reducible refine gOps_ndec (fun _ => ?_) (fun _ => ?_) <;> simp -implicitDefEqProofs [*, downTo, hyz]) | (with_reducible refine gOps_and (fun hq => ?_) (fun hq => ?_) <;> (try simp at hq) <;> simp -implicitDefEqProofs [*, downTo, hyz]) | (with_reducible refine gOps_or (fun hq => ?_) (fun hq => ?_) <;> (try simp at hq) <;> simp -implicitDefEqProofs [*, downTo, hyz]) | (with_reducible refine gOps_not (fun hq => ?_) (fun hq => ?_) <;> (try simp at hq) <;> simp -implicitDefEqProofs [*, downTo, hyz]) | (with_reducible refine gOps_split (fun hq => ?_) (fun hq => ?_) <;> (try simp at hq) <;> simp -implicitDefEqProofs [*, downTo, hyz]) | (with_reducible refine condC_dec (fun _ => ?_) (fun _ => ?_) <;> simp -implicitDefEqProofs [*, downTo, hyz]) | (with_reducible refine condC_ndec (fun _ => ?_) (fun _ => ?_) <;> simp -implicitDefEqProofs [*, downTo, hyz]) | (with_reducible refine condC_and (fun hq => ?_) (fun hq => ?_) <;> (try simp at hq) <;> simp -implicitDefEqProofs [*, downTo, hyz]) | (with_reducible refine condC_or (fun hq => ?_) (fun hq => ?_) <;> (try simp at hq) <;> simp -implicitDefEqProofs [*, downTo, hyz]) | (with_reducible refine condC_not (fun hq => ?_) (fun hq => ?_) <;> (try simp at hq) <;> simp -implicitDefEqProofs [*, downTo, hyz]) | (with_reducible refine condC_split (fun hq => ?_) (fun hq => ?_) <;> (try simp at hq) <;> simp -implicitDefEqProofs [*, downTo, hyz]) | (refine appK2_if (by omega) ?_; simp -implicitDefEqProofs [*, downTo, hyz]) | (refine pureV_if (by omega) ?_; simp -implicitDefEqProofs [*, downTo, hyz]))
              all_goals simp -implicitDefEqProofs [minL, minF, ite_min, ite_max, ite_max2, e1, e2]
              all_goals repeat' (first | (refine callThen_of (by first | exact g5 | exact m1 | exact m2 | exact law_Num _) ?_; simp -implicitDefEqProofs [*, downTo, hyz, minL, minF, ite_min, ite_max, ite_max2, e1, e2]) | (with_reducible refine gOps_dec (fun _ => ?_) (fun _ => ?_) <;> simp -implicitDefEqProofs [*, downTo, hyz, minL, minF, ite_min, ite_max, ite_max2, e1, e2]) | (with_reducible refine gOps_ndec (fun _ => ?_) (fun _ => ?_) <;> simp -implicitDefEqProofs [*, downTo, hyz, minL, minF, ite_min, ite_max, ite_max2, e1, e2]) | (with_reducible refine gOps_and (fun hq => ?_) (fun hq => ?_) <;> (try simp at hq) <;> simp -implicitDefEqProofs [*, downTo, hyz, minL, minF, ite_min, ite_max, ite_max2, e1, e2]) | (with_reducible refine gOps_or (fun hq => ?_) (fun hq => ?_) <;> (try simp at hq) <;> simp -implicitDefEqProofs [*, downTo, hyz, minL, minF, ite_min, ite_max, ite_max2, e1, e2]) | (with_reducible refine gOps_not (fun hq => ?_) (fun hq => ?_) <;> (try simp at hq) <;> simp -implicitDefEqProofs [*, downTo, hyz, minL, minF, ite_min, ite_max, ite_max2, e1, e2]) | (with_reducible refine gOps_split (fun hq => ?_) (fun hq => ?_) <;> (try simp at hq) <;> simp -implicitDefEqProofs [*, downTo, hyz, minL, minF, ite_min, ite_max, ite_max2, e1, e2]) | (with_reducible refine condC_dec (fun _ => ?_) (fun _ => ?_) <;> simp -implicitDefEqProofs [*, downTo, hyz, minL, minF, ite_min, ite_max, ite_max2, e1, e2]) | (with_reducible refine condC_ndec (fun _ => ?_) (fun _ => ?_) <;> simp -implicitDefEqProofs [*, downTo, hyz, minL, minF, ite_min, ite_max, ite_max2, e1, e2]) | (with_reducible refine condC_and (fun hq => ?_) (fun hq => ?_) <;> (try simp at hq) <;> simp -implicitDefEqProofs [*, downTo, hyz, minL, minF, ite_min, ite_max, ite_max2, e1, e2]) | (with_reducible refine condC_or (fun hq => ?_) (fun hq => ?_) <;> (try simp at hq) <;> simp -implicitDefEqProofs [*, downTo, hyz, minL, minF, ite_min, ite_max, ite_max2, e1, e2]) | (with_reducible refine condC_not (fun hq => ?_) (fun hq => ?_) <;> (try simp at hq) <;> simp -implicitDefEqProofs [*, downTo, hyz, minL, minF, ite_min, ite_max, ite_max2, e1, e2]) | (with_reducible refine condC_split (fun hq => ?_) (fun hq => ?_) <;> (try simp at hq) <;> simp -implicitDefEqProofs [*, downTo, hyz, minL, minF, ite_min, ite_max, ite_max2, e1, e2]) | (refine appK2_if (by omega) ?_; simp -implicitDefEqProofs [*, downTo, hyz, minL, minF, ite_min, ite_max, ite_max2, e1, e2]) | (refine pureV_if (by omega) ?_; simp -implicitDefEqProofs [*, downTo, hyz, minL, minF, ite_min, ite_max, ite_max2, e1, e2]))
        · have hs : ¬ cutAB (c % 16) (d % 16) = cutAB (a % 16) (b % 16) := fun e => e1 (hcc.1 e).1
          simp [hs] at g4 g5
          clear hcc hs
          cases O
          all_goals
            simp -implicitDefEqProofs [c_gimmallaw15_CutOther, cutsD]
            repeat' (first | (refine callThen_of (by first | exact law15_awake | exact g1 | exact g2 | exact g3 | exact g4 | exact law_Num _) ?_; simp -implicitDefEqProofs [*, downTo, hyz]) | (with_reducible refine gOps_dec (fun _ => ?_) (fun _ => ?_) <;> simp -implicitDefEqProofs [*, downTo, hyz]) | (with_reducible refine gOps_ndec (fun _ => ?_) (fun _ => ?_) <;> simp -implicitDefEqProofs [*, downTo, hyz]) | (with_reducible refine gOps_and (fun hq => ?_) (fun hq => ?_) <;> (try simp at hq) <;> simp -implicitDefEqProofs [*, downTo, hyz]) | (with_reducible refine gOps_or (fun hq => ?_) (fun hq => ?_) <;> (try simp at hq) <;> simp -implicitDefEqProofs [*, downTo, hyz]) | (with_reducible refine gOps_not (fun hq => ?_) (fun hq => ?_) <;> (try simp at hq) <;> simp -implicitDefEqProofs [*, downTo, hyz]) | (with_reducible refine gOps_split (fun hq => ?_) (fun hq => ?_) <;> (try simp at hq) <;> simp -implicitDefEqProofs [*, downTo, hyz]) | (with_reducible refine condC_dec (fun _ => ?_) (fun _ => ?_) <;> simp -implicitDefEqProofs [*, downTo, hyz]) | (with_reducible refine condC_ndec (fun _ => ?_) (fun _ => ?_) <;> simp -implicitDefEqProofs [*, downTo, hyz]) | (with_reducible refine condC_and (fun hq => ?_) (fun hq => ?_) <;> (try simp at hq) <;> simp -implicitDefEqProofs [*, downTo, hyz]) | (with_reducible refine condC_or (fun hq => ?_) (fun hq => ?_) <;> (try simp at hq) <;> simp -implicitDefEqProofs [*, downTo, hyz]) | (with_reducible refine condC_not (fun hq => ?_) (fun hq => ?_) <;> (try simp at hq) <;> simp -implicitDefEqProofs [*, downTo, hyz]) | (with_reducible refine condC_split (fun hq => ?_) (fun hq => ?_) <;> (try simp at hq) <;> simp -implicitDefEqProofs [*, downTo, hyz]) | (refine appK2_if (by omega) ?_; simp -implicitDefEqProofs [*, downTo, hyz]) | (refine pureV_if (by omega) ?_; simp -implicitDefEqProofs [*, downTo, hyz]))
            all_goals simp -implicitDefEqProofs [minL, minF, ite_min, ite_max, ite_max2, e1]
            all_goals repeat' (first | (refine callThen_of (by first | exact g5 | exact m1 | exact m2 | exact law_Num _) ?_; simp -implicitDefEqProofs [*, downTo, hyz, minL, minF, ite_min, ite_max, ite_max2, e1]) | (with_reducible refine gOps_dec (fun _ => ?_) (fun _ => ?_) <;> simp -implicitDefEqProofs [*, downTo, hyz, minL, minF, ite_min, ite_max, ite_max2, e1]) | (with_reducible refine gOps_ndec (fun _ => ?_) (fun _ => ?_) <;> simp -implicitDefEqProofs [*, downTo, hyz, minL, minF, ite_min, ite_max, ite_max2, e1]) | (with_reducible refine gOps_and (fun hq => ?_) (fun hq => ?_) <;> (try simp at hq) <;> simp -implicitDefEqProofs [*, downTo, hyz, minL, minF, ite_min, ite_max, ite_max2, e1]) | (with_reducible refine gOps_or (fun hq => ?_) (fun hq => ?_) <;> (try simp at hq) <;> simp -implicitDefEqProofs [*, downTo, hyz, minL, minF, ite_min, ite_max, ite_max2, e1]) | (with_reducible refine gOps_not (fun hq => ?_) (fun hq => ?_) <;> (try simp at hq) <;> simp -implicitDefEqProofs [*, downTo, hyz, minL, minF, ite_min, ite_max, ite_max2, e1]) | (with_reducible refine gOps_split (fun hq => ?_) (fun hq => ?_) <;> (try simp at hq) <;> simp -implicitDefEqProofs [*, downTo, hyz, minL, minF, ite_min, ite_max, ite_max2, e1]) | (with_reducible refine condC_dec (fun _ => ?_) (fun _ => ?_) <;> simp -implicitDefEqProofs [*, downTo, hyz, minL, minF, ite_min, ite_max, ite_max2, e1]) | (with_reducible refine condC_ndec (fun _ => ?_) (fun _ => ?_) <;> simp -implicitDefEqProofs [*, downTo, hyz, minL, minF, ite_min, ite_max, ite_max2, e1]) | (with_reducible refine condC_and (fun hq => ?_) (fun hq => ?_) <;> (try simp at hq) <;> simp -implicitDefEqProofs [*, downTo, hyz, minL, minF, ite_min, ite_max, ite_max2, e1]) | (with_reducible refine condC_or (fun hq => ?_) (fun hq => ?_) <;> (try simp at hq) <;> simp -implicitDefEqProofs [*, downTo, hyz, minL, minF, ite_min, ite_max, ite_max2, e1]) | (with_reducible refine condC_not (fun hq => ?_) (fun hq => ?_) <;> (try simp at hq) <;> simp -implicitDefEqProofs [*, downTo, hyz, minL, minF, ite_min, ite_max, ite_max2, e1]) | (with_reducible refine condC_split (fun hq => ?_) (fun hq => ?_) <;> (try simp at hq) <;> simp -implicitDefEqProofs [*, downTo, hyz, minL, minF, ite_min, ite_max, ite_max2, e1]) | (refine appK2_if (by omega) ?_; simp -implicitDefEqProofs [*, downTo, hyz, minL, minF, ite_min, ite_max, ite_max2, e1]) | (refine pureV_if (by omega) ?_; simp -implicitDefEqProofs [*, downTo, hyz, minL, minF, ite_min, ite_max, ite_max2, e1]))
end Go.AM
/- AM: chapter 15's statements: CutForms. -/
namespace Go.AM
set_option linter.unusedSimpArgs false
set_option linter.unusedVariables false
set_option maxRecDepth 8000
set_option maxHeartbeats 0
theorem u64_nonneg (a : Int) : 0 ≤ IntKind.u64.wrap a := by
  simp [IntKind.wrap, IntKind.signed, IntKind.bits]
  omega
def full15 : List Cut := (List.range 32).map fun (j : Nat) => ⟨(j : Int), 100⟩
theorem full15_2 : ∀ m : Fin 32, withC full15 100 ((m.val : Nat) : Int) = (full15, 0) := by decide +kernel
def bad15 (Z : D) : Prop := (∀ f g, D.mapR f g Z = Z) ∧ (Z.ids = [] ∧ Z.rids = []) ∧ Den PP 28 [Z, .int .i64 5, .int .i64 6] [] (.tup [.ref 0 0 0, .int .i64 1500]) [⟨[], 2, .mut⟩] ∧
  Den PP 30 [Z, .int .i64 5, .int .i64 6] [] (.tup [.ref 0 0 0, .int .i64 1500]) [⟨[], 2, .mut⟩] ∧ Den PP 32 [Z, .int .i64 5, .int .i64 6] [] (.tup [.bool false, .int .i64 1500]) [] ∧ Den PP 35 [Z] [] (.bool false) []
theorem bad15_of (cs : List Cut) (h : cutsMay cs = false) (hl : cs.length ≤ 16) : bad15 (cutsD cs) := by
  have g1 := cuts_With cs 5 6 (by unfold cap; omega)
  have g2 := cuts_Without cs 5 6 (by unfold cap; omega)
  have g3 := cuts_Is cs 5 6 (by unfold cap; omega)
  have g4 := cuts_May cs (by unfold cap; omega)
  rw [show withC cs 5 6 = ([], 1500) by simp [withC, askMay, h]] at g1
  rw [show withoutC cs 5 6 = ([], 1500) by simp [withoutC, askMay, h]] at g2
  rw [show isC cs 5 6 = (false, 1500) by simp [isC, askMay, h]] at g3
  rw [h] at g4
  exact ⟨fun f g => mapR_cutsD f g cs, ⟨rfl, rfl⟩, g1, g2, g3, g4⟩
theorem law15_CutForms (which x : Int) : Den PP 10 [.int .i64 which, .int .i64 x] [] (.bool true) [] := by
  have hd : 0 ≤ x % 1024 ∧ x % 1024 < 1024 := by omega
  have w1 : IntKind.wrap .i64 (1 + x % 1024) = 1 + x % 1024 := wrap_in (by omega) (by omega)
  have w4 : IntKind.wrap .i64 (255 + (1 + x % 1024)) = 255 + (1 + x % 1024) := wrap_in (by omega) (by omega)
  have w6 : IntKind.wrap .i64 (-(1 + x % 1024)) = -(1 + x % 1024) := wrap_in (by omega) (by omega)
  obtain ⟨t6, ht6, he6⟩ : ∃ t : Nat, t < 6 ∧ (IntKind.u64.wrap which).tmod 6 = (t : Int) := by
    rw [Int.tmod_eq_emod_of_nonneg (u64_nonneg which)]
    exact ⟨(IntKind.u64.wrap which % 6).toNat, by omega, by omega⟩
  obtain ⟨t3, ht3, he3⟩ : ∃ t : Nat, t < 3 ∧ (IntKind.u64.wrap which).tmod 3 = (t : Int) := by
    rw [Int.tmod_eq_emod_of_nonneg (u64_nonneg which)]
    exact ⟨(IntKind.u64.wrap which % 3).toNat, by omega, by omega⟩
  have w7 : IntKind.wrap .i64 (t6 : Int) = t6 := wrap_in (by omega) (by omega)
  have w3 : IntKind.wrap .i64 (t3 : Int) = t3 := wrap_in (by omega) (by omega)
  have l6 : (t6 : Int) < 6 := by omega
  have l3 : (t3 : Int) < 3 := by omega
  have hpl1 : place (-(1 + x % 1024)) = false := by simp [place]; omega
  have hpl2 : place (255 + (1 + x % 1024)) = false := by simp [place]; omega
  obtain ⟨Z, hZ, hZm, ⟨hZi, hZr⟩, b1, b2, b3, b4⟩ : ∃ Z, (∀ h, ([[D.sl [[D.int IntKind.i64 3, D.int IntKind.i64 3]] 1], [D.sl [[D.int IntKind.i64 9, D.int IntKind.i64 3]] 1], [D.sl [[D.int IntKind.i64 3, D.int IntKind.i64 9], [D.int IntKind.i64 3, D.int IntKind.i64 9]] 2], [D.sl [[D.int IntKind.i64 3, D.int IntKind.i64 9], [D.int IntKind.i64 2, D.int IntKind.i64 9]] 2], [D.sl [[D.int IntKind.i64 (-(1 + x % 1024)), D.int IntKind.i64 9]] 1], [D.sl [[D.int IntKind.i64 3, D.int IntKind.i64 (255 + (1 + x % 1024))]] 1]] : List (List D))[t6]'h = [Z]) ∧ bad15 Z := by
    have hc : t6 = 0 ∨ t6 = 1 ∨ t6 = 2 ∨ t6 = 3 ∨ t6 = 4 ∨ t6 = 5 := by omega
    rcases hc with rfl | rfl | rfl | rfl | rfl | rfl
    · exact ⟨_, fun _ => rfl, bad15_of [⟨3, 3⟩] (by decide +kernel) (by simp)⟩
    · exact ⟨_, fun _ => rfl, bad15_of [⟨9, 3⟩] (by decide +kernel) (by simp)⟩
    · exact ⟨_, fun _ => rfl, bad15_of [⟨3, 9⟩, ⟨3, 9⟩] (by decide +kernel) (by simp)⟩
    · exact ⟨_, fun _ => rfl, bad15_of [⟨3, 9⟩, ⟨2, 9⟩] (by decide +kernel) (by simp)⟩
    · exact ⟨_, fun _ => rfl, bad15_of [⟨-(1 + x % 1024), 9⟩] (by simp [cutsMay, cutsOk, cutOk, hpl1]) (by simp)⟩
    · exact ⟨_, fun _ => rfl, bad15_of [⟨3, 255 + (1 + x % 1024)⟩] (by simp [cutsMay, cutsOk, cutOk, hpl2]) (by simp)⟩
  obtain ⟨y, hy, c1, c2, c3⟩ : ∃ y : Int, (∀ h, ([[D.int IntKind.i64 (-(1 + x % 1024))], [D.int IntKind.i64 (255 + (1 + x % 1024))], [D.int IntKind.i64 7]] : List (List D))[t3]'h = [.int .i64 y]) ∧ Den PP 28 [.sl [] 0, .int .i64 7, .int .i64 y] [] (.tup [.ref 0 0 0, .int .i64 1500]) [⟨[], 2, .mut⟩] ∧
      Den PP 30 [.sl [] 0, .int .i64 y, .int .i64 7] [] (.tup [.ref 0 0 0, .int .i64 1500]) [⟨[], 2, .mut⟩] ∧ Den PP 32 [.sl [] 0, .int .i64 7, .int .i64 y] [] (.tup [.bool false, .int .i64 1500]) [] := by
    have hc : t3 = 0 ∨ t3 = 1 ∨ t3 = 2 := by omega
    have key : ∀ y : Int, (place y = false ∨ y = 7) → Den PP 28 [.sl [] 0, .int .i64 7, .int .i64 y] [] (.tup [.ref 0 0 0, .int .i64 1500]) [⟨[], 2, .mut⟩] ∧
      Den PP 30 [.sl [] 0, .int .i64 y, .int .i64 7] [] (.tup [.ref 0 0 0, .int .i64 1500]) [⟨[], 2, .mut⟩] ∧ Den PP 32 [.sl [] 0, .int .i64 7, .int .i64 y] [] (.tup [.bool false, .int .i64 1500]) [] := by
      intro y h
      have k1 : askMay [] 7 y = false := by rcases h with h | h <;> simp [askMay, h]
      have k2 : askMay [] y 7 = false := by rcases h with h | h <;> simp [askMay, h]
      have g1 := cuts_With [] 7 y (by simp)
      have g2 := cuts_Without [] y 7 (by simp)
      have g3 := cuts_Is [] 7 y (by simp)
      rw [show withC [] 7 y = ([], 1500) by simp [withC, k1]] at g1
      rw [show withoutC [] y 7 = ([], 1500) by simp [withoutC, k2]] at g2
      rw [show isC [] 7 y = (false, 1500) by simp [isC, k1]] at g3
      exact ⟨g1, g2, g3⟩
    rcases hc with rfl | rfl | rfl
    · exact ⟨_, fun _ => rfl, key _ (.inl hpl1)⟩
    · exact ⟨_, fun _ => rfl, key _ (.inl hpl2)⟩
    · exact ⟨_, fun _ => rfl, key _ (.inr rfl)⟩
  clear hpl1 hpl2
  have hmx : (((x % 32).toNat : Nat) : Int) = x % 32 := by omega
  have f1 := cuts_With full15 200 201 (by unfold cap; decide)
  have f2 := cuts_With full15 100 (x % 32) (by unfold cap; decide)
  have f3 := cuts_May full15 (by unfold cap; decide)
  have f4 := law_SameCuts full15 full15 (by unfold cap; decide)
  have hm2 := full15_2 ⟨(x % 32).toNat, by omega⟩
  simp only [hmx] at hm2
  rw [show withC full15 200 201 = ([], 1501) by decide +kernel] at f1
  rw [hm2] at f2
  rw [show cutsMay full15 = true by decide +kernel] at f3
  have hfl : full15.length = 32 := by decide
  have hfr : (List.range 32).map (fun (j : Nat) => (⟨(j : Int), 100⟩ : Cut).row) = full15.map Cut.row := by unfold full15; rw [List.map_map]; rfl
  clear hm2 hmx
  generalize full15 = F at *
  simp only [cutsD, hfl] at f1 f2 f3 f4
  simp at f1
  refine den_of [] [] is_gimmallaw15_CutForms ?_
  simp -implicitDefEqProofs [c_gimmallaw15_CutForms]
  refine callThen_of law15_awake ?_
  simp -implicitDefEqProofs [w1, w4, w6, he6, w7, l6, ht6, hZ, hZm, downTo]
  refine callThen_of b1 ?_
  simp -implicitDefEqProofs [hZm, hZi, hZr, downTo]
  refine callThen_of b2 ?_
  simp -implicitDefEqProofs [hZm, hZi, hZr, downTo]
  refine callThen_of b3 ?_
  simp -implicitDefEqProofs [w1, w4, w6, he3, w3, l3, ht3, hy, hZm, hZi, hZr, downTo]
  refine callThen_nil rfl c1 rfl ?_
  simp -implicitDefEqProofs [hZm, hZi, hZr, downTo]
  refine callThen_nil rfl c2 rfl ?_
  simp -implicitDefEqProofs [hZm, hZi, hZr, downTo]
  refine callThen_nil rfl c3 rfl ?_
  simp -implicitDefEqProofs [hZm, hZi, hZr, downTo]
  refine count_rule 32 (fun i => fun ⟨fr, bs⟩ => ∃ p0 p1 p2 p3 p4 p5 p6 p7 : Blk, bs = [p0, p1, p2, p3, p4, p5, p6, p7, ⟨(List.range i).map fun (j : Nat) => (⟨(j : Int), 100⟩ : Cut).row, 2, .mut⟩] ∧ fr 1 = .int .i64 x ∧ fr 7 = Z ∧ fr 9 = .int .i64 1500 ∧ fr 11 = .int .i64 1500 ∧ fr 13 = .int .i64 1500 ∧ fr 16 = .int .i64 1500 ∧ fr 18 = .int .i64 1500 ∧ fr 20 = .int .i64 1500 ∧ fr 21 = .ref 8 0 i ∧ fr 22 = .int .i64 i)
    (fun ⟨fr, bs⟩ => ∃ p0 p1 p2 p3 p4 p5 p6 p7 : Blk, bs = [p0, p1, p2, p3, p4, p5, p6, p7, ⟨(List.range 32).map fun (j : Nat) => (⟨(j : Int), 100⟩ : Cut).row, 2, .mut⟩] ∧ fr 1 = .int .i64 x ∧ fr 7 = Z ∧ fr 9 = .int .i64 1500 ∧ fr 11 = .int .i64 1500 ∧ fr 13 = .int .i64 1500 ∧ fr 16 = .int .i64 1500 ∧ fr 18 = .int .i64 1500 ∧ fr 20 = .int .i64 1500 ∧ fr 21 = .ref 8 0 32) (fun _ => False) c_gimmallaw15_CutForms_L0.eq_1 ?_ ?_ ?_ ?_ ?_
  · exact ⟨_, _, _, _, _, _, _, _, rfl, rfl, rfl, rfl, rfl, rfl, rfl, rfl, rfl, rfl, rfl⟩
  · rintro ⟨fr, bs⟩ ⟨p0, p1, p2, p3, p4, p5, p6, p7, rfl, q1, q7, q9, q11, q13, q16, q18, q20, q21, q22⟩
    simp -implicitDefEqProofs [q1, q7, q9, q11, q13, q16, q18, q20, q21, q22]
  · rintro i ⟨fr, bs⟩ hlt ⟨p0, p1, p2, p3, p4, p5, p6, p7, rfl, q1, q7, q9, q11, q13, q16, q18, q20, q21, q22⟩
    have hlt2 : (i : Int) < 32 := by omega
    have u3 := wrap_next (n := i) (by omega)
    have htk := List.range_succ (n := i)
    clear hfr
    simp -implicitDefEqProofs [q1, q7, q9, q11, q13, q16, q18, q20, q21, q22, hlt2, u3, htk, hZm, hZi, hZr, downTo, Fits, Cut.row]
    repeat' (first | (refine callThen_of (by first | exact ring_Place _ | exact den_nrm (ring_Place _) | exact den_nrm (by simpa using ring_Place _)) ?_; simp -implicitDefEqProofs [*, Cut.row, hZm, hZi, hZr]) | (with_reducible refine gOps_dec (fun _ => ?_) (fun _ => ?_) <;> simp -implicitDefEqProofs [*, Cut.row, hZm, hZi, hZr]) | (with_reducible refine gOps_ndec (fun _ => ?_) (fun _ => ?_) <;> simp -implicitDefEqProofs [*, Cut.row, hZm, hZi, hZr]) | (with_reducible refine gOps_and (fun hq => ?_) (fun hq => ?_) <;> (try simp at hq) <;> simp -implicitDefEqProofs [*, Cut.row, hZm, hZi, hZr]) | (with_reducible refine gOps_or (fun hq => ?_) (fun hq => ?_) <;> (try simp at hq) <;> simp -implicitDefEqProofs [*, Cut.row, hZm, hZi, hZr]) | (with_reducible refine gOps_not (fun hq => ?_) (fun hq => ?_) <;> (try simp at hq) <;> simp -implicitDefEqProofs [*, Cut.row, hZm, hZi, hZr]) | (with_reducible refine gOps_split (fun hq => ?_) (fun hq => ?_) <;> (try simp at hq) <;> simp -implicitDefEqProofs [*, Cut.row, hZm, hZi, hZr]) | (with_reducible refine condC_dec (fun _ => ?_) (fun _ => ?_) <;> simp -implicitDefEqProofs [*, Cut.row, hZm, hZi, hZr]) | (with_reducible refine condC_ndec (fun _ => ?_) (fun _ => ?_) <;> simp -implicitDefEqProofs [*, Cut.row, hZm, hZi, hZr]) | (with_reducible refine condC_and (fun hq => ?_) (fun hq => ?_) <;> (try simp at hq) <;> simp -implicitDefEqProofs [*, Cut.row, hZm, hZi, hZr]) | (with_reducible refine condC_or (fun hq => ?_) (fun hq => ?_) <;> (try simp at hq) <;> simp -implicitDefEqProofs [*, Cut.row, hZm, hZi, hZr]) | (with_reducible refine condC_not (fun hq => ?_) (fun hq => ?_) <;> (try simp at hq) <;> simp -implicitDefEqProofs [*, Cut.row, hZm, hZi, hZr]) | (with_reducible refine condC_split (fun hq => ?_) (fun hq => ?_) <;> (try simp at hq) <;> simp -implicitDefEqProofs [*, Cut.row, hZm, hZi, hZr]) | (refine appK2_if (by omega) ?_; simp -implicitDefEqProofs [*, Cut.row, hZm, hZi, hZr]) | (refine pureV_if (by omega) ?_; simp -implicitDefEqProofs [*, Cut.row, hZm, hZi, hZr]))
  · rintro ⟨fr, bs⟩ ⟨p0, p1, p2, p3, p4, p5, p6, p7, rfl, q1, q7, q9, q11, q13, q16, q18, q20, q21⟩
    rw [hfr]
    clear hfr
    simp -implicitDefEqProofs [q1, q7, q9, q11, q13, q16, q18, q20, q21, hZm, hZi, hZr, hfl]
    repeat' (first | (refine callThen_of (by first | exact f1 | exact f2 | exact f3 | exact f4 | exact b4 | exact law_Num _) ?_; simp -implicitDefEqProofs [*, q1, q7, q9, q11, q13, q16, q18, q20, q21, hZm, hZi, hZr, hfl, downTo]) | (with_reducible refine gOps_dec (fun _ => ?_) (fun _ => ?_) <;> simp -implicitDefEqProofs [*, q1, q7, q9, q11, q13, q16, q18, q20, q21, hZm, hZi, hZr, hfl, downTo]) | (with_reducible refine gOps_ndec (fun _ => ?_) (fun _ => ?_) <;> simp -implicitDefEqProofs [*, q1, q7, q9, q11, q13, q16, q18, q20, q21, hZm, hZi, hZr, hfl, downTo]) | (with_reducible refine gOps_and (fun hq => ?_) (fun hq => ?_) <;> (try simp at hq) <;> simp -implicitDefEqProofs [*, q1, q7, q9, q11, q13, q16, q18, q20, q21, hZm, hZi, hZr, hfl, downTo]) | (with_reducible refine gOps_or (fun hq => ?_) (fun hq => ?_) <;> (try simp at hq) <;> simp -implicitDefEqProofs [*, q1, q7, q9, q11, q13, q16, q18, q20, q21, hZm, hZi, hZr, hfl, downTo]) | (with_reducible refine gOps_not (fun hq => ?_) (fun hq => ?_) <;> (try simp at hq) <;> simp -implicitDefEqProofs [*, q1, q7, q9, q11, q13, q16, q18, q20, q21, hZm, hZi, hZr, hfl, downTo]) | (with_reducible refine gOps_split (fun hq => ?_) (fun hq => ?_) <;> (try simp at hq) <;> simp -implicitDefEqProofs [*, q1, q7, q9, q11, q13, q16, q18, q20, q21, hZm, hZi, hZr, hfl, downTo]) | (with_reducible refine condC_dec (fun _ => ?_) (fun _ => ?_) <;> simp -implicitDefEqProofs [*, q1, q7, q9, q11, q13, q16, q18, q20, q21, hZm, hZi, hZr, hfl, downTo]) | (with_reducible refine condC_ndec (fun _ => ?_) (fun _ => ?_) <;> simp -implicitDefEqProofs [*, q1, q7, q9, q11, q13, q16, q18, q20, q21, hZm, hZi, hZr, hfl, downTo]) | (with_reducible refine condC_and (fun hq => ?_) (fun hq => ?_) <;> (try simp at hq) <;> simp -implicitDefEqProofs [*, q1, q7, q9, q11, q13, q16, q18, q20, q21, hZm, hZi, hZr, hfl, downTo]) | (with_reducible refine condC_or (fun hq => ?_) (fun hq => ?_) <;> (try simp at hq) <;> simp -implicitDefEqProofs [*, q1, q7, q9, q11, q13, q16, q18, q20, q21, hZm, hZi, hZr, hfl, downTo]) | (with_reducible refine condC_not (fun hq => ?_) (fun hq => ?_) <;> (try simp at hq) <;> simp -implicitDefEqProofs [*, q1, q7, q9, q11, q13, q16, q18, q20, q21, hZm, hZi, hZr, hfl, downTo]) | (with_reducible refine condC_split (fun hq => ?_) (fun hq => ?_) <;> (try simp at hq) <;> simp -implicitDefEqProofs [*, q1, q7, q9, q11, q13, q16, q18, q20, q21, hZm, hZi, hZr, hfl, downTo]) | (refine appK2_if (by omega) ?_; simp -implicitDefEqProofs [*, q1, q7, q9, q11, q13, q16, q18, q20, q21, hZm, hZi, hZr, hfl, downTo]) | (refine pureV_if (by omega) ?_; simp -implicitDefEqProofs [*, q1, q7, q9, q11, q13, q16, q18, q20, q21, hZm, hZi, hZr, hfl, downTo]))
  · rintro ⟨fr, bs⟩ h
    exact h.elim
end Go.AM
