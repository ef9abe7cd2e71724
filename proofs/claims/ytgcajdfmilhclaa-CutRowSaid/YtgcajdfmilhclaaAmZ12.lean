/- What the proof of this claim stands on, part 12. -/
import Derived.Test.YtgcajdfmilhclaaAmZ11
/- AM: contracts: what the statements' helpers do with slices. -/
namespace Go.AM
set_option linter.unusedSimpArgs false
set_option linter.unusedVariables false
set_option maxRecDepth 8000
set_option maxHeartbeats 0
theorem copy_Item (rows : List (List D)) (hf : Fits 5 rows) (hl : rows.length * 40 ≤ 140737488355328) : Den PP 40 [.sl rows rows.length] [] (.ref 0 0 rows.length) [⟨rows, 5, .mut⟩] := by
  have h63 : rows.length ≤ 9223372036854775807 := by omega
  refine den_of [] [] is_gimmallaw0_CopyItems ?_
  simp -implicitDefEqProofs [c_gimmallaw0_CopyItems, List.take_of_length_le (Nat.le_refl rows.length), hf, hl, h63]
theorem lend_Item (xs : List Item) (hl : xs.length * 40 ≤ 140737488351232) : Den PP 13 [.sl (xs.map Item.row) xs.length] [] (.ref 0 0 xs.length) [⟨xs.map Item.row ++ [(⟨0, 0, 0, 77777, false⟩ : Item), (⟨0, 0, 0, 77777, false⟩ : Item)].map Item.row, 5, .mut⟩] := by
  have c1 := copy_Item (xs.map Item.row) (by simp) (by simp; omega)
  simp only [List.length_map] at c1
  refine den_of [5] [] is_gimmallaw0_LendItems ?_
  simp -implicitDefEqProofs [c_gimmallaw0_LendItems]
  refine callThen_of c1 ?_
  simp -implicitDefEqProofs [downTo]
  refine ⟨by simp [Fits], ?_⟩
  try refine appK2_if (by omega) ?_
  simp -implicitDefEqProofs [downTo]
  refine outK_slice 0 xs.length (by simp; rfl) rfl (by first | rfl | omega | (simp [boundD]; done) | (simp [boundD]; omega) | (simp; done) | (simp; omega)) (by first | rfl | omega | (simp [boundD]; done) | (simp [boundD]; omega) | (simp; done) | (simp; omega)) (by omega) (by first | rfl | omega | (simp [boundD]; done) | (simp [boundD]; omega) | (simp; done) | (simp; omega)) rfl (by first | rfl | omega | (simp [boundD]; done) | (simp [boundD]; omega) | (simp; done) | (simp; omega)) ?_
  simp -implicitDefEqProofs [downTo, Item.row]
theorem kept_Item (xs : List Item) (hl : xs.length * 40 ≤ 140737488351232) : Den PP 23 [.sl (xs.map Item.row ++ [(⟨0, 0, 0, 77777, false⟩ : Item), (⟨0, 0, 0, 77777, false⟩ : Item)].map Item.row) xs.length, .sl (xs.map Item.row) xs.length] [] (.bool true) [] := by
  have c1 : Den PP 18 [.sl (xs.map Item.row ++ [(⟨0, 0, 0, 77777, false⟩ : Item), (⟨0, 0, 0, 77777, false⟩ : Item)].map Item.row) xs.length, .sl (xs.map Item.row) xs.length] [] (.bool true) [] := den_cut (by
    have := law_SameItems xs xs (by unfold cap; omega)
    simpa [itemsD] using this)
  have hw : IntKind.wrap .i64 ((xs.length : Int) + 2) = ((xs.length + 2 : Nat) : Int) := by rw [wrap_in (by omega) (by omega)]; omega
  have hw1 : IntKind.wrap .i64 ((xs.length : Int) + 1) = ((xs.length + 1 : Nat) : Int) := by rw [wrap_in (by omega) (by omega)]; omega
  have g1 : ((xs.map Item.row) ++ [(⟨0, 0, 0, 77777, false⟩ : Item), (⟨0, 0, 0, 77777, false⟩ : Item)].map Item.row)[xs.length]? = some (Item.row (⟨0, 0, 0, 77777, false⟩ : Item)) := by rw [List.getElem?_append_right (by simp)]; simp
  have g2 : ((xs.map Item.row) ++ [(⟨0, 0, 0, 77777, false⟩ : Item), (⟨0, 0, 0, 77777, false⟩ : Item)].map Item.row)[xs.length + 1]? = some (Item.row (⟨0, 0, 0, 77777, false⟩ : Item)) := by rw [List.getElem?_append_right (by simp)]; simp
  generalize hq : (xs.map Item.row) ++ [(⟨0, 0, 0, 77777, false⟩ : Item), (⟨0, 0, 0, 77777, false⟩ : Item)].map Item.row = q at *
  have hql : q.length = xs.length + 2 := by rw [← hq]; simp
  have hqr : ∀ r ∈ q, r.length = 5 := by
    intro r hr
    rw [← hq, ← List.map_append] at hr
    obtain ⟨a, _, rfl⟩ := List.mem_map.1 hr
    rfl
  have n1 : ((xs.length : Int) < (xs.length : Int) + 2) := by omega
  have n2 : ((xs.length : Int) + 1 < (xs.length : Int) + 2) := by omega
  have n3 : (((xs.length + 1 : Nat) : Int)).toNat = xs.length + 1 := by omega
  refine den_of [] [] is_gimmallaw0_KeptItems ?_
  simp -implicitDefEqProofs [c_gimmallaw0_KeptItems, hw]
  refine outK_sliceS 0 (xs.length + 2) (by simp; rfl) (by first | rfl | omega | (simp [boundD]; done) | (simp [boundD]; omega) | (simp; done) | (simp; omega)) (by first | rfl | omega | (simp [boundD]; done) | (simp [boundD]; omega) | (simp; done) | (simp; omega)) (by omega) (by omega) (by simpa using hqr) ?_
  simp -implicitDefEqProofs [hw, hw1]
  refine callThen_of c1 ?_
  simp -implicitDefEqProofs [hw, hw1, g1, g2, Item.row, n1, n2, n3, EQS]
  refine pureV_if (by omega) ?_
  simp -implicitDefEqProofs [hw, hw1, g1, g2, Item.row, n1, n2, n3, EQS]
def spoilItem (a : Item) : Item := { a with value := (IntKind.wrap .i64 (BitVec.ofInt IntKind.i64.bits a.value ^^^ BitVec.ofInt IntKind.i64.bits 90).toNat) }
theorem spoil_Item (xs : List Item) (hl : xs.length ≤ cap16) : Den PP 22 [.ref 0 0 xs.length] [⟨xs.map Item.row, 5, .mut⟩] (.tup []) [⟨(xs.map spoilItem).map Item.row, 5, .mut⟩] := by
  unfold cap16 at hl
  refine den_of [] [] is_gimmallaw0_SpoilItems ?_
  simp -implicitDefEqProofs [c_gimmallaw0_SpoilItems]
  refine list_rule xs (fun i rest => fun ⟨fr, bs⟩ => ∃ done, bs = [⟨(done ++ rest).map Item.row, 5, .mut⟩] ∧ done.length = i ∧ done ++ rest.map spoilItem = xs.map spoilItem ∧ fr 0 = .ref 0 0 xs.length ∧ fr 2 = .int .i64 i)
    (fun ⟨fr, bs⟩ => bs = [⟨(xs.map spoilItem).map Item.row, 5, .mut⟩]) (fun ⟨fr, bs⟩ => False) c_gimmallaw0_SpoilItems_L0.eq_1 ?_ ?_ ?_ ?_ ?_
  · exact ⟨[], rfl, rfl, rfl, rfl, rfl⟩
  · rintro i ⟨fr, bs⟩ hi ⟨done, rfl, hd, he, h0, h2⟩
    simp -implicitDefEqProofs [h0, h2, hi]
    simp at he
    simp [he]
  · rintro i a rest ⟨fr, bs⟩ hlt hget hg hd hd2 ⟨done, rfl, hdl, he, h0, h2⟩
    have hlt' : (i : Int) < xs.length := by omega
    have hw := wrap_next (n := i) (by omega)
    have h3 : ∀ (A B : List (List D)) r, A.length = i → (A ++ r :: B)[i]? = some r := by intro A B r h; simp [← h]
    have h4 : ∀ (A B : List (List D)) r r', A.length = i → (A ++ r' :: B).set i r = A ++ r :: B := by intro A B r r' h; simp [← h]
    simp -implicitDefEqProofs [h0, h2, hlt', h3, h4, hdl, Item.row, hw, reach, downTo]
    exact ⟨done ++ [spoilItem a], by first | (simp [Item.row, spoilItem]; done) | (simp [Item.row, spoilItem]; rfl), by simp [hdl], by simpa using he⟩
  · rintro ⟨fr, bs⟩ rfl
    try simp -implicitDefEqProofs
  · rintro ⟨fr, bs⟩ h
    exact h.elim
theorem copy_Cut (rows : List (List D)) (hf : Fits 2 rows) (hl : rows.length * 16 ≤ 140737488355328) : Den PP 50 [.sl rows rows.length] [] (.ref 0 0 rows.length) [⟨rows, 2, .mut⟩] := by
  have h63 : rows.length ≤ 9223372036854775807 := by omega
  refine den_of [] [] is_gimmallaw0_CopyCuts ?_
  simp -implicitDefEqProofs [c_gimmallaw0_CopyCuts, List.take_of_length_le (Nat.le_refl rows.length), hf, hl, h63]
theorem lend_Cut (xs : List Cut) (hl : xs.length * 16 ≤ 140737488351232) : Den PP 27 [.sl (xs.map Cut.row) xs.length] [] (.ref 0 0 xs.length) [⟨xs.map Cut.row ++ [(⟨77777, 0⟩ : Cut), (⟨77777, 0⟩ : Cut)].map Cut.row, 2, .mut⟩] := by
  have c1 := copy_Cut (xs.map Cut.row) (by simp) (by simp; omega)
  simp only [List.length_map] at c1
  refine den_of [5] [] is_gimmallaw0_LendCuts ?_
  simp -implicitDefEqProofs [c_gimmallaw0_LendCuts]
  refine callThen_of c1 ?_
  simp -implicitDefEqProofs [downTo]
  refine ⟨by simp [Fits], ?_⟩
  try refine appK2_if (by omega) ?_
  simp -implicitDefEqProofs [downTo]
  refine outK_slice 0 xs.length (by simp; rfl) rfl (by first | rfl | omega | (simp [boundD]; done) | (simp [boundD]; omega) | (simp; done) | (simp; omega)) (by first | rfl | omega | (simp [boundD]; done) | (simp [boundD]; omega) | (simp; done) | (simp; omega)) (by omega) (by first | rfl | omega | (simp [boundD]; done) | (simp [boundD]; omega) | (simp; done) | (simp; omega)) rfl (by first | rfl | omega | (simp [boundD]; done) | (simp [boundD]; omega) | (simp; done) | (simp; omega)) ?_
  simp -implicitDefEqProofs [downTo, Cut.row]
theorem kept_Cut (xs : List Cut) (hl : xs.length * 16 ≤ 140737488351232) : Den PP 38 [.sl (xs.map Cut.row ++ [(⟨77777, 0⟩ : Cut), (⟨77777, 0⟩ : Cut)].map Cut.row) xs.length, .sl (xs.map Cut.row) xs.length] [] (.bool true) [] := by
  have c1 : Den PP 34 [.sl (xs.map Cut.row ++ [(⟨77777, 0⟩ : Cut), (⟨77777, 0⟩ : Cut)].map Cut.row) xs.length, .sl (xs.map Cut.row) xs.length] [] (.bool true) [] := den_cut (by
    have := law_SameCuts xs xs (by unfold cap; omega)
    simpa [cutsD] using this)
  have hw : IntKind.wrap .i64 ((xs.length : Int) + 2) = ((xs.length + 2 : Nat) : Int) := by rw [wrap_in (by omega) (by omega)]; omega
  have hw1 : IntKind.wrap .i64 ((xs.length : Int) + 1) = ((xs.length + 1 : Nat) : Int) := by rw [wrap_in (by omega) (by omega)]; omega
  have g1 : ((xs.map Cut.row) ++ [(⟨77777, 0⟩ : Cut), (⟨77777, 0⟩ : Cut)].map Cut.row)[xs.length]? = some (Cut.row (⟨77777, 0⟩ : Cut)) := by rw [List.getElem?_append_right (by simp)]; simp
  have g2 : ((xs.map Cut.row) ++ [(⟨77777, 0⟩ : Cut), (⟨77777, 0⟩ : Cut)].map Cut.row)[xs.length + 1]? = some (Cut.row (⟨77777, 0⟩ : Cut)) := by rw [List.getElem?_append_right (by simp)]; simp
  generalize hq : (xs.map Cut.row) ++ [(⟨77777, 0⟩ : Cut), (⟨77777, 0⟩ : Cut)].map Cut.row = q at *
  have hql : q.length = xs.length + 2 := by rw [← hq]; simp
  have hqr : ∀ r ∈ q, r.length = 2 := by
    intro r hr
    rw [← hq, ← List.map_append] at hr
    obtain ⟨a, _, rfl⟩ := List.mem_map.1 hr
    rfl
  have n1 : ((xs.length : Int) < (xs.length : Int) + 2) := by omega
  have n2 : ((xs.length : Int) + 1 < (xs.length : Int) + 2) := by omega
  have n3 : (((xs.length + 1 : Nat) : Int)).toNat = xs.length + 1 := by omega
  refine den_of [] [] is_gimmallaw0_KeptCuts ?_
  simp -implicitDefEqProofs [c_gimmallaw0_KeptCuts, hw]
  refine outK_sliceS 0 (xs.length + 2) (by simp; rfl) (by first | rfl | omega | (simp [boundD]; done) | (simp [boundD]; omega) | (simp; done) | (simp; omega)) (by first | rfl | omega | (simp [boundD]; done) | (simp [boundD]; omega) | (simp; done) | (simp; omega)) (by omega) (by omega) (by simpa using hqr) ?_
  simp -implicitDefEqProofs [hw, hw1]
  refine callThen_of c1 ?_
  simp -implicitDefEqProofs [hw, hw1, g1, g2, Cut.row, n1, n2, n3, EQS]
  refine pureV_if (by omega) ?_
  simp -implicitDefEqProofs [hw, hw1, g1, g2, Cut.row, n1, n2, n3, EQS]
def spoilCut (a : Cut) : Cut := { a with a := (IntKind.wrap .i64 (BitVec.ofInt IntKind.i64.bits a.a ^^^ BitVec.ofInt IntKind.i64.bits 90).toNat) }
theorem spoil_Cut (xs : List Cut) (hl : xs.length ≤ cap16) : Den PP 37 [.ref 0 0 xs.length] [⟨xs.map Cut.row, 2, .mut⟩] (.tup []) [⟨(xs.map spoilCut).map Cut.row, 2, .mut⟩] := by
  unfold cap16 at hl
  refine den_of [] [] is_gimmallaw0_SpoilCuts ?_
  simp -implicitDefEqProofs [c_gimmallaw0_SpoilCuts]
  refine list_rule xs (fun i rest => fun ⟨fr, bs⟩ => ∃ done, bs = [⟨(done ++ rest).map Cut.row, 2, .mut⟩] ∧ done.length = i ∧ done ++ rest.map spoilCut = xs.map spoilCut ∧ fr 0 = .ref 0 0 xs.length ∧ fr 2 = .int .i64 i)
    (fun ⟨fr, bs⟩ => bs = [⟨(xs.map spoilCut).map Cut.row, 2, .mut⟩]) (fun ⟨fr, bs⟩ => False) c_gimmallaw0_SpoilCuts_L0.eq_1 ?_ ?_ ?_ ?_ ?_
  · exact ⟨[], rfl, rfl, rfl, rfl, rfl⟩
  · rintro i ⟨fr, bs⟩ hi ⟨done, rfl, hd, he, h0, h2⟩
    simp -implicitDefEqProofs [h0, h2, hi]
    simp at he
    simp [he]
  · rintro i a rest ⟨fr, bs⟩ hlt hget hg hd hd2 ⟨done, rfl, hdl, he, h0, h2⟩
    have hlt' : (i : Int) < xs.length := by omega
    have hw := wrap_next (n := i) (by omega)
    have h3 : ∀ (A B : List (List D)) r, A.length = i → (A ++ r :: B)[i]? = some r := by intro A B r h; simp [← h]
    have h4 : ∀ (A B : List (List D)) r r', A.length = i → (A ++ r' :: B).set i r = A ++ r :: B := by intro A B r r' h; simp [← h]
    simp -implicitDefEqProofs [h0, h2, hlt', h3, h4, hdl, Cut.row, hw, reach, downTo]
    exact ⟨done ++ [spoilCut a], by first | (simp [Cut.row, spoilCut]; done) | (simp [Cut.row, spoilCut]; rfl), by simp [hdl], by simpa using he⟩
  · rintro ⟨fr, bs⟩ rfl
    try simp -implicitDefEqProofs
  · rintro ⟨fr, bs⟩ h
    exact h.elim
end Go.AM
/- AM: what is handed in, told. -/
namespace Go.AM
set_option linter.unusedSimpArgs false
set_option linter.unusedVariables false
set_option maxRecDepth 8000
theorem tell_int {n : Nat} {cs : List D} (h : Tell TT (n + 1) 3 cs) : ∃ x, cs = [.int .i64 x] ∧ in64 x := by
  simp [Tell] at h
  obtain ⟨x, rfl, hx⟩ := h
  exact ⟨x, rfl, wf64 hx⟩
theorem tell_bool {n : Nat} {cs : List D} (h : Tell TT (n + 1) 4 cs) : ∃ x, cs = [.bool x] := by
  simpa [Tell] using h
theorem tell_ints {n : Nat} {cs : List D} (h : Tell TT (n + 2) 65 cs) : ∃ xs : List Int, cs = [intsD xs] ∧ xs.length * 8 ≤ 140737488351232 ∧ ∀ x ∈ xs, in64 x := by
  unfold Tell at h
  simp at h
  obtain ⟨rows, rfl, hl, hr⟩ := h
  obtain ⟨xs, rfl, hx⟩ := rows_of (f := irow) (Q := in64) rows fun r h => by
    obtain ⟨x, rfl, hx⟩ := tell_int (hr r h)
    exact ⟨x, rfl, hx⟩
  exact ⟨xs, by simp [intsD], by simpa using hl, hx⟩
theorem tell_Version {n : Nat} {cs : List D} (h : Tell TT (n + 2) 24 cs) : ∃ c w : Int, cs = [.int .i64 c, .int .i64 w] ∧ in64 c ∧ in64 w := by
  unfold Tell at h
  simp [Tell.TellFs] at h
  obtain ⟨a, b, rfl, h1, h2⟩ := h
  obtain ⟨x, rfl, hx⟩ := tell_int h1
  obtain ⟨y, rfl, hy⟩ := tell_int h2
  exact ⟨x, y, rfl, hx, hy⟩
def Item.tame (i : Item) : Prop := in64 i.key ∧ in64 i.count ∧ in64 i.writer ∧ in64 i.value
theorem tell_Item {n : Nat} {cs : List D} (h : Tell TT (n + 3) 26 cs) : ∃ i : Item, cs = i.row ∧ i.tame := by
  unfold Tell at h
  simp [Tell.TellFs] at h
  obtain ⟨a, r1, rfl, h1, b, r2, rfl, h2, c, d, rfl, h3, h4⟩ := h
  obtain ⟨x, rfl, hx⟩ := tell_int h1
  obtain ⟨y, z, rfl, hy, hz⟩ := tell_Version h2
  obtain ⟨u, rfl, hu⟩ := tell_int h3
  obtain ⟨g, rfl⟩ := tell_bool h4
  exact ⟨⟨x, y, z, u, g⟩, rfl, hx, hy, hz, hu⟩
theorem tell_items {n : Nat} {cs : List D} (h : Tell TT (n + 4) 22 cs) : ∃ is : List Item, cs = [itemsD is] ∧ is.length * 40 ≤ 140737488351232 ∧ ∀ i ∈ is, i.tame := by
  unfold Tell at h
  simp at h
  obtain ⟨rows, rfl, hl, hr⟩ := h
  obtain ⟨xs, rfl, hx⟩ := rows_of (f := Item.row) (Q := Item.tame) rows fun r h => tell_Item (hr r h)
  exact ⟨xs, by simp [itemsD], by simpa using hl, hx⟩
theorem arg_Item {n : Nat} {d : D} (h : TellArg TT (n + 3) 26 d) : ∃ x : Item, d = .agg x.row ∧ x.tame := by
  simp [TellArg] at h
  obtain ⟨cs, rfl, h⟩ := h
  obtain ⟨v, rfl, hv⟩ := tell_Item h
  exact ⟨v, rfl, hv⟩
theorem arg_items {n : Nat} {d : D} (h : TellArg TT (n + 4) 22 d) : ∃ x : List Item, d = itemsD x ∧ x.length * 40 ≤ 140737488351232 ∧ ∀ i ∈ x, i.tame := by
  simp [TellArg] at h
  obtain ⟨xs, hx, h2⟩ := tell_items h
  simp at hx
  exact ⟨xs, hx, h2⟩
theorem arg_ints {n : Nat} {d : D} (h : TellArg TT (n + 2) 65 d) : ∃ x : List Int, d = intsD x ∧ x.length * 8 ≤ 140737488351232 ∧ ∀ i ∈ x, in64 i := by
  simp [TellArg] at h
  obtain ⟨xs, hx, h2⟩ := tell_ints h
  simp at hx
  exact ⟨xs, hx, h2⟩
theorem arg_bool {n : Nat} {d : D} (h : TellArg TT (n + 1) 4 d) : ∃ x, d = .bool x ∧ True := by
  simp [TellArg] at h
  obtain ⟨x, hx⟩ := tell_bool h
  simp at hx
  exact ⟨x, hx, trivial⟩
theorem arg_int {n : Nat} {d : D} (h : TellArg TT (n + 1) 3 d) : ∃ x, d = .int .i64 x ∧ in64 x := by
  simp [TellArg] at h
  obtain ⟨x, hx, h2⟩ := tell_int h
  simp at hx
  exact ⟨x, hx, h2⟩
end Go.AM
/- AM: chapter 15's statements: Cutses, CutOther. -/
namespace Go.AM
set_option linter.unusedSimpArgs false
set_option linter.unusedVariables false
set_option maxRecDepth 8000
set_option maxHeartbeats 0
theorem tell_Cut {n : Nat} {cs : List D} (h : Tell TT (n + 2) 63 cs) : ∃ c : Cut, cs = c.row ∧ in64 c.a ∧ in64 c.b := by
  unfold Tell at h
  simp [Tell.TellFs] at h
  obtain ⟨a, b, rfl, h1, h2⟩ := h
  obtain ⟨x, rfl, hx⟩ := tell_int h1
  obtain ⟨u, rfl, hu⟩ := tell_int h2
  exact ⟨⟨x, u⟩, rfl, hx, hu⟩
theorem tell_cuts {n : Nat} {cs : List D} (h : Tell TT (n + 3) 48 cs) : ∃ ts : List Cut, cs = [cutsD ts] ∧ ts.length * 16 ≤ 140737488351232 ∧ ∀ t ∈ ts, in64 t.a ∧ in64 t.b := by
  unfold Tell at h
  simp at h
  obtain ⟨rows, rfl, hl, hr⟩ := h
  obtain ⟨xs, rfl, hx⟩ := rows_of (f := Cut.row) (Q := fun t => in64 t.a ∧ in64 t.b) rows fun r h => tell_Cut (hr r h)
  exact ⟨xs, by simp [cutsD], by simpa using hl, hx⟩
theorem arg_cuts {n : Nat} {d : D} (h : TellArg TT (n + 3) 48 d) : ∃ x : List Cut, d = cutsD x ∧ x.length * 16 ≤ 140737488351232 ∧ ∀ c ∈ x, in64 c.a ∧ in64 c.b := by
  simp [TellArg] at h
  obtain ⟨xs, h1, h2, h3⟩ := tell_cuts h
  simp at h1
  exact ⟨xs, h1, h2, h3⟩
theorem law15_awake : Den PP 39 [] [] (.bool true) [] := by
  have g1 := cuts_With [⟨3, 9⟩] 5 2 (by unfold cap; decide)
  have g2 := cuts_Without [⟨2, 5⟩, ⟨3, 9⟩] 9 3 (by unfold cap; decide)
  have g3 := cuts_Is [⟨2, 5⟩, ⟨3, 9⟩] 2 5 (by unfold cap; decide)
  have g4 := cuts_With [⟨2, 5⟩, ⟨3, 9⟩] 4 4 (by unfold cap; decide)
  have g5 := cuts_Is [⟨9, 3⟩] 2 5 (by unfold cap; decide)
  have g6 := law_SameCuts [⟨2, 5⟩, ⟨3, 9⟩] [⟨2, 5⟩, ⟨3, 9⟩] (by unfold cap; decide)
  have g7 := law_SameCuts [⟨2, 5⟩] [⟨2, 5⟩] (by unfold cap; decide)
  have g8 := cuts_May [⟨2, 5⟩, ⟨3, 9⟩] (by unfold cap; decide)
  rw [show withC [⟨3, 9⟩] 5 2 = ([⟨2, 5⟩, ⟨3, 9⟩], 0) by decide +kernel] at g1
  rw [show withoutC [⟨2, 5⟩, ⟨3, 9⟩] 9 3 = ([⟨2, 5⟩], 0) by decide +kernel] at g2
  rw [show isC [⟨2, 5⟩, ⟨3, 9⟩] 2 5 = (true, 0) by decide +kernel] at g3
  rw [show withC [⟨2, 5⟩, ⟨3, 9⟩] 4 4 = ([], 1500) by decide +kernel] at g4
  rw [show isC [⟨9, 3⟩] 2 5 = (false, 1500) by decide +kernel] at g5
  rw [show cutsMay [⟨2, 5⟩, ⟨3, 9⟩] = true by decide +kernel] at g8
  simp [cutsD, Cut.row] at g1 g2 g3 g4 g5 g6 g7 g8
  refine den_of [] [] is_gimmallaw15_awake ?_
  simp -implicitDefEqProofs [c_gimmallaw15_awake]
  repeat' (first | (refine callThen_of (by first | exact g1 | exact g2 | exact g3 | exact g4 | exact g5 | exact g6 | exact g7 | exact g8 | exact law_Num _) ?_; simp -implicitDefEqProofs [*, downTo]) | (with_reducible refine gOps_dec (fun _ => ?_) (fun _ => ?_) <;> simp -implicitDefEqProofs [*, downTo]) | (with_reducible refine gOps_ndec (fun _ => ?_) (fun _ => ?_) <;> simp -implicitDefEqProofs [*, downTo]) | (with_reducible refine gOps_and (fun hq => ?_) (fun hq => ?_) <;> (try simp at hq) <;> simp -implicitDefEqProofs [*, downTo]) | (with_reducible refine gOps_or (fun hq => ?_) (fun hq => ?_) <;> (try simp at hq) <;> simp -implicitDefEqProofs [*, downTo]) | (with_reducible refine gOps_not (fun hq => ?_) (fun hq => ?_) <;> (try simp at hq) <;> simp -implicitDefEqProofs [*, downTo]) | (with_reducible refine gOps_split (fun hq => ?_) (fun hq => ?_) <;> (try simp at hq) <;> simp -implicitDefEqProofs [*, downTo]) | (with_reducible refine condC_dec (fun _ => ?_) (fun _ => ?_) <;> simp -implicitDefEqProofs [*, downTo]) | (with_reducible refine condC_ndec (fun _ => ?_) (fun _ => ?_) <;> simp -implicitDefEqProofs [*, downTo]) | (with_reducible refine condC_and (fun hq => ?_) (fun hq => ?_) <;> (try simp at hq) <;> simp -implicitDefEqProofs [*, downTo]) | (with_reducible refine condC_or (fun hq => ?_) (fun hq => ?_) <;> (try simp at hq) <;> simp -implicitDefEqProofs [*, downTo]) | (with_reducible refine condC_not (fun hq => ?_) (fun hq => ?_) <;> (try simp at hq) <;> simp -implicitDefEqProofs [*, downTo]) | (with_reducible refine condC_split (fun hq => ?_) (fun hq => ?_) <;> (try simp at hq) <;> simp -implicitDefEqProofs [*, downTo]) | (refine appK2_if (by omega) ?_; simp -implicitDefEqProofs [*, downTo]) | (refine pureV_if (by omega) ?_; simp -implicitDefEqProofs [*, downTo]))
theorem law15_Cutses (cs : List Cut) (a b : Int) (hl : cs.length * 16 ≤ 140737488351232) : Den PP 9 [cutsD cs, .int .i64 a, .int .i64 b] [] (.bool true) [] := by
  have hc : cs.length ≤ cap := by unfold cap; omega
  have g0 := lend_Cut cs hl
  have g1 := cuts_With cs a b hc
  have g2 := ref_WithCut cs a b hc
  have g3 := cuts_Without cs a b hc
  have g4 := ref_WithoutCut cs a b hc
  have g5 := cuts_Is cs a b hc
  have g6 := ref_IsCut cs a b hc
  have g7 := cuts_May cs hc
  have g8 := ref_CutsMay cs hc
  have g9 := kept_Cut cs hl
  have l1 := withC_len cs a b
  have l2 := withoutC_len cs a b
  generalize withC cs a b = A at *
  obtain ⟨p, e⟩ := A
  generalize withoutC cs a b = B at *
  obtain ⟨q, f⟩ := B
  generalize isC cs a b = C at *
  obtain ⟨i, h⟩ := C
  simp only at l1 l2 g1 g2 g3 g4 g5 g6
  have g10 := law_SameCuts p p (by unfold cap; omega)
  have g11 := law_SameCuts q q (by unfold cap; omega)
  have s1 := spoil_Cut p (by unfold cap16; omega)
  have s2 := spoil_Cut q (by unfold cap16; omega)
  have cut : ∀ {f : Nat} {r : D} {bs' : List Blk} (post : List D), Den PP f (.sl (cs.map Cut.row) cs.length :: post) [] r bs' → post.map D.cut = post → Den PP f (.sl (cs.map Cut.row ++ [(⟨77777, 0⟩ : Cut), (⟨77777, 0⟩ : Cut)].map Cut.row) cs.length :: post) [] r bs' := by
    intro f r bs' post h hp
    refine den_cut ?_
    simp only [List.map_cons, D.cut, hp, take_map_app]
    exact h
  generalize cutsMay cs = M at *
  simp only [cutsD] at g0 g1 g2 g3 g4 g5 g6 g7 g8 g9 g10 g11
  have k1 := cut [.int .i64 a, .int .i64 b] g1 rfl
  have k3 := cut [.int .i64 a, .int .i64 b] g3 rfl
  have k5 := cut [.int .i64 a, .int .i64 b] g5 rfl
  have k7 := cut [] g7 rfl
  generalize hq : cs.map Cut.row ++ [(⟨77777, 0⟩ : Cut), (⟨77777, 0⟩ : Cut)].map Cut.row = z at *
  clear hq cut g1 g3 g5 g7
  refine den_of [26, 40] [104, 106] is_gimmallaw15_Cutses ?_
  simp -implicitDefEqProofs [c_gimmallaw15_Cutses, cutsD]
  refine callThen_of g0 ?_
  skip
  simp -implicitDefEqProofs [downTo]
  refine callThen_of k1 ?_
  simp -implicitDefEqProofs [downTo]
  refine callThen_of g2 ?_
  simp -implicitDefEqProofs [downTo]
  refine callThen_of k3 ?_
  simp -implicitDefEqProofs [downTo]
  refine callThen_of g4 ?_
  simp -implicitDefEqProofs [downTo]
  refine callThen_of k5 ?_
  simp -implicitDefEqProofs [downTo]
  refine callThen_of g6 ?_
  simp -implicitDefEqProofs [downTo]
  repeat' (first | (refine callThen_of (by first | exact g10 | exact g11 | exact k7 | exact g8 | exact law_Num _) ?_; simp -implicitDefEqProofs [*]) | (with_reducible refine gOps_dec (fun _ => ?_) (fun _ => ?_) <;> simp -implicitDefEqProofs [*]) | (with_reducible refine gOps_ndec (fun _ => ?_) (fun _ => ?_) <;> simp -implicitDefEqProofs [*]) | (with_reducible refine gOps_and (fun hq => ?_) (fun hq => ?_) <;> (try simp at hq) <;> simp -implicitDefEqProofs [*]) | (with_reducible refine gOps_or (fun hq => ?_) (fun hq => ?_) <;> (try simp at hq) <;> simp -implicitDefEqProofs [*]) | (with_reducible refine gOps_not (fun hq => ?_) (fun hq => ?_) <;> (try simp at hq) <;> simp -implicitDefEqProofs [*]) | (with_reducible refine gOps_split (fun hq => ?_) (fun hq => ?_) <;> (try simp at hq) <;> simp -implicitDefEqProofs [*]) | (with_reducible refine condC_dec (fun _ => ?_) (fun _ => ?_) <;> simp -implicitDefEqProofs [*]) | (with_reducible refine condC_ndec (fun _ => ?_) (fun _ => ?_) <;> simp -implicitDefEqProofs [*]) | (with_reducible refine condC_and (fun hq => ?_) (fun hq => ?_) <;> (try simp at hq) <;> simp -implicitDefEqProofs [*]) | (with_reducible refine condC_or (fun hq => ?_) (fun hq => ?_) <;> (try simp at hq) <;> simp -implicitDefEqProofs [*]) | (with_reducible refine condC_not (fun hq => ?_) (fun hq => ?_) <;> (try simp at hq) <;> simp -implicitDefEqProofs [*]) | (with_reducible refine condC_split (fun hq => ?_) (fun hq => ?_) <;> (try simp at hq) <;> simp -implicitDefEqProofs [*]) | (refine appK2_if (by omega) ?_; simp -implicitDefEqProofs [*]) | (refine pureV_if (by omega) ?_; simp -implicitDefEqProofs [*]))
  refine lendThen_frame [0] rfl (by decide) (by simp) s1 (by simp) (by simp [lentBs]) ?_
  simp -implicitDefEqProofs [framed]
  refine lendThen_frame [1] rfl (by decide) (by simp) s2 (by simp) (by simp [lentBs]) ?_
  simp -implicitDefEqProofs [framed]
  repeat' (first | (refine callThen_of (by first | exact g9 | exact law15_awake) ?_; simp -implicitDefEqProofs [*]) | (with_reducible refine gOps_dec (fun _ => ?_) (fun _ => ?_) <;> simp -implicitDefEqProofs [*]) | (with_reducible refine gOps_ndec (fun _ => ?_) (fun _ => ?_) <;> simp -implicitDefEqProofs [*]) | (with_reducible refine gOps_and (fun hq => ?_) (fun hq => ?_) <;> (try simp at hq) <;> simp -implicitDefEqProofs [*]) | (with_reducible refine gOps_or (fun hq => ?_) (fun hq => ?_) <;> (try simp at hq) <;> simp -implicitDefEqProofs [*]) | (with_reducible refine gOps_not (fun hq => ?_) (fun hq => ?_) <;> (try simp at hq) <;> simp -implicitDefEqProofs [*]) | (with_reducible refine gOps_split (fun hq => ?_) (fun hq => ?_) <;> (try simp at hq) <;> simp -implicitDefEqProofs [*]) | (with_reducible refine condC_dec (fun _ => ?_) (fun _ => ?_) <;> simp -implicitDefEqProofs [*]) | (with_reducible refine condC_ndec (fun _ => ?_) (fun _ => ?_) <;> simp -implicitDefEqProofs [*]) | (with_reducible refine condC_and (fun hq => ?_) (fun hq => ?_) <;> (try simp at hq) <;> simp -implicitDefEqProofs [*]) | (with_reducible refine condC_or (fun hq => ?_) (fun hq => ?_) <;> (try simp at hq) <;> simp -implicitDefEqProofs [*]) | (with_reducible refine condC_not (fun hq => ?_) (fun hq => ?_) <;> (try simp at hq) <;> simp -implicitDefEqProofs [*]) | (with_reducible refine condC_split (fun hq => ?_) (fun hq => ?_) <;> (try simp at hq) <;> simp -implicitDefEqProofs [*]) | (refine appK2_if (by omega) ?_; simp -implicitDefEqProofs [*]) | (refine pureV_if (by omega) ?_; simp -implicitDefEqProofs [*]))
theorem withC_cases {cs : List Cut} {a b : Int} (h : askMay cs a b = true) : withC cs a b = ([], 1501) ∨ ∃ P, withC cs a b = (P, 0) ∧ cutsMay P = true ∧ ∀ y, y ∈ P ↔ y = cutAB a b ∨ y ∈ cs := by
  obtain ⟨h1, h2, h3, h4⟩ := askMay_iff.1 h
  have hc := cutAB_ok h2 h3 h4
  unfold withC
  rw [if_pos h]
  by_cases hin : cutAB a b ∈ cs
  · rw [if_pos hin]
    refine .inr ⟨cs, rfl, h1, fun y => ⟨.inr, ?_⟩⟩
    rintro (rfl | h)
    · exact hin
    · exact h
  · rw [if_neg hin]
    by_cases h5 : cs.length = 32
    · rw [if_pos h5]; exact .inl rfl
    · rw [if_neg h5]
      exact .inr ⟨_, rfl, cutsMay_ins h1 hc hin h5, fun y => insC_mem⟩
theorem law15_CutOther (cs : List Cut) (a b c d : Int) (hl : cs.length ≤ cap) : Den PP 12 [cutsD cs, .int .i64 a, .int .i64 b, .int .i64 c, .int .i64 d] [] (.bool true) [] := by
  have g1 := cuts_With cs (a % 16) (b % 16) hl
  have g2 := cuts_Without cs (a % 16) (b % 16) hl
  have p1 : place (a % 16) = true := by rw [place_iff]; omega
  have p2 : place (b % 16) = true := by rw [place_iff]; omega
  have p3 : place (c % 16) = true := by rw [place_iff]; omega
  have p4 : place (d % 16) = true := by rw [place_iff]; omega
  cases h : askMay cs (a % 16) (b % 16) with
  | false =>
    rw [show withC cs (a % 16) (b % 16) = ([], 1500) by simp [withC, h]] at g1
    rw [show withoutC cs (a % 16) (b % 16) = ([], 1500) by simp [withoutC, h]] at g2
    simp [cutsD] at g1 g2
    refine den_of [] [] is_gimmallaw15_CutOther ?_
    simp -implicitDefEqProofs [c_gimmallaw15_CutOther, cutsD]
    repeat' (first | (refine callThen_of (by first | exact law15_awake | exact g1 | exact g2 | exact law_Num _) ?_; simp -implicitDefEqProofs [*, downTo]) | (with_reducible refine gOps_dec (fun _ => ?_) (fun _ => ?_) <;> simp -implicitDefEqProofs [*, downTo]) | (with_reducible refine gOps_ndec (fun _ => ?_) (fun _ => ?_) <;> simp -implicitDefEqProofs [*, downTo]) | (with_reducible refine gOps_and (fun hq => ?_) (fun hq => ?_) <;> (try simp at hq) <;> simp -implicitDefEqProofs [*, downTo]) | (with_reducible refine gOps_or (fun hq => ?_) (fun hq => ?_) <;> (try simp at hq) <;> simp -implicitDefEqProofs [*, downTo]) | (with_reducible refine gOps_not (fun hq => ?_) (fun hq => ?_) <;> (try simp at hq) <;> simp -implicitDefEqProofs [*, downTo]) | (with_reducible refine gOps_split (fun hq => ?_) (fun hq => ?_) <;> (try simp at hq) <;> simp -implicitDefEqProofs [*, downTo]) | (with_reducible refine condC_dec (fun _ => ?_) (fun _ => ?_) <;> simp -implicitDefEqProofs [*, downTo]) | (with_reducible refine condC_ndec (fun _ => ?_) (fun _ => ?_) <;> simp -implicitDefEqProofs [*, downTo]) | (with_reducible refine condC_and (fun hq => ?_) (fun hq => ?_) <;> (try simp at hq) <;> simp -implicitDefEqProofs [*, downTo]) | (with_reducible refine condC_or (fun hq => ?_) (fun hq => ?_) <;> (try simp at hq) <;> simp -implicitDefEqProofs [*, downTo]) | (with_reducible refine condC_not (fun hq => ?_) (fun hq => ?_) <;> (try simp at hq) <;> simp -implicitDefEqProofs [*, downTo]) | (with_reducible refine condC_split (fun hq => ?_) (fun hq => ?_) <;> (try simp at hq) <;> simp -implicitDefEqProofs [*, downTo]) | (refine appK2_if (by omega) ?_; simp -implicitDefEqProofs [*, downTo]) | (refine pureV_if (by omega) ?_; simp -implicitDefEqProofs [*, downTo]))
  | true =>
    obtain ⟨h1, _, _, h4⟩ := askMay_iff.1 h
    have hc1 := cutAB_ok p1 p2 h4
    have hmf : cutsMay (cs.filter fun x => !decide (x = cutAB (a % 16) (b % 16))) = true := cutsMay_filter h1
    have hlf := List.length_filter_le (fun x => !decide (x = cutAB (a % 16) (b % 16))) cs
    have m2 := cuts_May (cs.filter fun x => !decide (x = cutAB (a % 16) (b % 16))) (by omega)
    rw [hmf] at m2
    have g3 := cuts_Is cs (c % 16) (d % 16) hl
    have g4 := cuts_Is (cs.filter fun x => !decide (x = cutAB (a % 16) (b % 16))) (c % 16) (d % 16) (by omega)
    rw [show withoutC cs (a % 16) (b % 16) = (cs.filter fun x => !decide (x = cutAB (a % 16) (b % 16)), 0) by simp [withoutC, h]] at g2
    by_cases hyz : c % 16 = d % 16
    · generalize withC cs (a % 16) (b % 16) = W at *
      generalize (cs.filter fun x => !decide (x = cutAB (a % 16) (b % 16))) = F at *
      obtain ⟨P, e⟩ := W
      simp only [cutsD] at g1 g2
      refine den_of [] [] is_gimmallaw15_CutOther ?_
      simp -implicitDefEqProofs [c_gimmallaw15_CutOther, cutsD]
      repeat' (first | (refine callThen_of (by first | exact law15_awake | exact g1 | exact g2 | exact law_Num _) ?_; simp -implicitDefEqProofs [*, downTo, hyz]) | (with_reducible refine gOps_dec (fun _ => ?_) (fun _ => ?_) <;> simp -implicitDefEqProofs [*, downTo, hyz]) | (with_reducible refine gOps_ndec (fun _ => ?_) (fun _ => ?_) <;> simp -implicitDefEqProofs [*, downTo, hyz]) | (with_reducible refine gOps_and (fun hq => ?_) (fun hq => ?_) <;> (try simp at hq) <;> simp -implicitDefEqProofs [*, downTo, hyz]) | (with_reducible refine gOps_or (fun hq => ?_) (fun hq => ?_) <;> (try simp at hq) <;> simp -implicitDefEqProofs [*, downTo, hyz]) | (with_reducible refine gOps_not (fun hq => ?_) (fun hq => ?_) <;> (try simp at hq) <;> simp -implicitDefEqProofs [*, downTo, hyz]) | (with_reducible refine gOps_split (fun hq => ?_) (fun hq => ?_) <;> (try simp at hq) <;> simp -implicitDefEqProofs [*, downTo, hyz]) | (with_reducible refine condC_dec (fun _ => ?_) (fun _ => ?_) <;> simp -implicitDefEqProofs [*, downTo, hyz]) | (with_reducible refine condC_ndec (fun _ => ?_) (fun _ => ?_) <;> simp -implicitDefEqProofs [*, downTo, hyz]) | (with_reducible refine condC_and (fun hq => ?_) (fun hq => ?_) <;> (try simp at hq) <;> simp -implicitDefEqProofs [*, downTo, hyz]) | (with_reducible refine condC_or (fun hq => ?_) (fun hq => ?_) <;> (try simp at hq) <;> simp -implicitDefEqProofs [*, downTo, hyz]) | (with_reducible refine condC_not (fun hq => ?_) (fun hq => ?_) <;> (try simp at hq) <;> simp -implicitDefEqProofs [*, downTo, hyz]) | (with_reducible refine condC_split (fun hq => ?_) (fun hq => ?_) <;> (try simp at hq) <;> simp -implicitDefEqProofs [*, downTo, hyz]) | (refine appK2_if (by omega) ?_; simp -implicitDefEqProofs [*, downTo, hyz]) | (refine pureV_if (by omega) ?_; simp -implicitDefEqProofs [*, downTo, hyz]))
    · have ak1 : askMay cs (c % 16) (d % 16) = true := askMay_iff.2 ⟨h1, p3, p4, hyz⟩
      have ak2 : askMay (cs.filter fun x => !decide (x = cutAB (a % 16) (b % 16))) (c % 16) (d % 16) = true := askMay_iff.2 ⟨hmf, p3, p4, hyz⟩
      rw [show isC cs (c % 16) (d % 16) = (decide (cutAB (c % 16) (d % 16) ∈ cs), 0) by simp [isC, ak1]] at g3
      rw [show isC (cs.filter fun x => !decide (x = cutAB (a % 16) (b % 16))) (c % 16) (d % 16) = (decide (cutAB (c % 16) (d % 16) ∈ cs) && !decide (cutAB (c % 16) (d % 16) = cutAB (a % 16) (b % 16)), 0) by simp [isC, ak2]] at g4
      generalize (cs.filter fun x => !decide (x = cutAB (a % 16) (b % 16))) = F at *
      have hw := withC_cases h
      have hab : cutAB (a % 16) (b % 16) = ⟨min (a % 16) (b % 16), max (a % 16) (b % 16)⟩ := rfl
      have hcd : cutAB (c % 16) (d % 16) = ⟨min (c % 16) (d % 16), max (c % 16) (d % 16)⟩ := rfl
      have hcc : cutAB (c % 16) (d % 16) = cutAB (a % 16) (b % 16) ↔ min (a % 16) (b % 16) = min (c % 16) (d % 16) ∧ max (a % 16) (b % 16) = max (c % 16) (d % 16) := by
        rw [hab, hcd, Cut.mk.injEq]
        exact ⟨fun ⟨x, y⟩ => ⟨x.symm, y.symm⟩, fun ⟨x, y⟩ => ⟨x.symm, y.symm⟩⟩
      clear h h1 h4 hc1 hmf hlf p1 p2 ak1 ak2 hab hcd
      have hP : ∀ P, cutsMay P = true → Den PP 32 [cutsD P, .int .i64 (c % 16), .int .i64 (d % 16)] [] (.tup [.bool (decide (cutAB (c % 16) (d % 16) ∈ P)), .int .i64 0]) [] ∧ Den PP 35 [cutsD P] [] (.bool true) [] := by
        intro P hm
        have h32 := (cutsMay_iff.1 hm).2.2
        have k1 := cuts_Is P (c % 16) (d % 16) (by unfold cap; omega)
        have k2 := cuts_May P (by unfold cap; omega)
        rw [hm] at k2
        rw [show isC P (c % 16) (d % 16) = (decide (cutAB (c % 16) (d % 16) ∈ P), 0) by simp [isC, askMay_iff.2 ⟨hm, p3, p4, hyz⟩]] at k1
        exact ⟨k1, k2⟩
      have hcs : cutAB (c % 16) (d % 16) = cutAB (a % 16) (b % 16) → decide (cutAB (c % 16) (d % 16) ∈ cs) = decide (cutAB (a % 16) (b % 16) ∈ cs) := fun e => by rw [e]
      rcases hw with hw | ⟨P, hw, hPm, hPi⟩
      · rw [hw] at g1
        simp only [cutsD] at g1 g2 g3 g4 m2
        simp at g1
        clear hw hP hcs
        generalize decide (cutAB (c % 16) (d % 16) ∈ cs) = O at *
        refine den_of [] [] is_gimmallaw15_CutOther ?_
        by_cases e1 : min (a % 16) (b % 16) = min (c % 16) (d % 16)
        · by_cases e2 : max (a % 16) (b % 16) = max (c % 16) (d % 16)
          · have hs := hcc.2 ⟨e1, e2⟩
            simp [hs] at g4 
            clear hcc hs
            simp -implicitDefEqProofs [c_gimmallaw15_CutOther, cutsD]
            repeat' (first | (refine callThen_of (by first | exact law15_awake | exact g1 | exact g2 | exact g3 | exact g4 | exact law_Num _) ?_; simp -implicitDefEqProofs [*, downTo, hyz]) | (with_reducible refine gOps_dec (fun _ => ?_) (fun _ => ?_) <;> simp -implicitDefEqProofs [*, downTo, hyz]) | (with_reducible refine gOps_ndec (fun _ => ?_) (fun _ => ?_) <;> simp -implicitDefEqProofs [*, downTo, hyz]) | (with_reducible refine gOps_and (fun hq => ?_) (fun hq => ?_) <;> (try simp at hq) <;> simp -implicitDefEqProofs [*, downTo, hyz]) | (with_reducible refine gOps_or (fun hq => ?_) (fun hq => ?_) <;> (try simp at hq) <;> simp -implicitDefEqProofs [*, downTo, hyz]) | (with_reducible refine gOps_not (fun hq => ?_) (fun hq => ?_) <;> (try simp at hq) <;> simp -implicitDefEqProofs [*, downTo, hyz]) | (with_reducible refine gOps_split (fun hq => ?_) (fun hq => ?_) <;> (try simp at hq) <;> simp -implicitDefEqProofs [*, downTo, hyz]) | (with_reducible refine condC_dec (fun _ => ?_) (fun _ => ?_) <;> simp -implicitDefEqProofs [*, downTo, hyz]) | (with_reducible refine condC_ndec (fun _ => ?_) (fun _ => ?_) <;> simp -implicitDefEqProofs [*, downTo, hyz]) | (with_reducible refine condC_and (fun hq => ?_) (fun hq => ?_) <;> (try simp at hq) <;> simp -implicitDefEqProofs [*, downTo, hyz]) | (with_reducible refine condC_or (fun hq => ?_) (fun hq => ?_) <;> (try simp at hq) <;> simp -implicitDefEqProofs [*, downTo, hyz]) | (with_reducible refine condC_not (fun hq => ?_) (fun hq => ?_) <;> (try simp at hq) <;> simp -implicitDefEqProofs [*, downTo, hyz]) | (with_reducible refine condC_split (fun hq => ?_) (fun hq => ?_) <;> (try simp at hq) <;> simp -implicitDefEqProofs [*, downTo, hyz]) | (refine appK2_if (by omega) ?_; simp -implicitDefEqProofs [*, downTo, hyz]) | (refine pureV_if (by omega) ?_; simp -implicitDefEqProofs [*, downTo, hyz]))
            all_goals simp -implicitDefEqProofs [minL, minF, ite_min, ite_max, ite_max2, e1, e2]
            all_goals repeat' (first | (refine callThen_of (by first | exact law_Num _) ?_; simp -implicitDefEqProofs [*, downTo, hyz, minL, minF, ite_min, ite_max, ite_max2, e1, e2]) | (with_reducible refine gOps_dec (fun _ => ?_) (fun _ => ?_) <;> simp -implicitDefEqProofs [*, downTo, hyz, minL, minF, ite_min, ite_max, ite_max2, e1, e2]) | (with_reducible refine gOps_ndec (fun _ => ?_) (fun _ => ?_) <;> simp -implicitDefEqProofs [*, downTo, hyz, minL, minF, ite_min, ite_max, ite_max2, e1, e2]) | (with_reducible refine gOps_and (fun hq => ?_) (fun hq => ?_) <;> (try simp at hq) <;> simp -implicitDefEqProofs [*, downTo, hyz, minL, minF, ite_min, ite_max, ite_max2, e1, e2]) | (with_reducible refine gOps_or (fun hq => ?_) (fun hq => ?_) <;> (try simp at hq) <;> simp -implicitDefEqProofs [*, downTo, hyz, minL, minF, ite_min, ite_max, ite_max2, e1, e2]) | (with_reducible refine gOps_not (fun hq => ?_) (fun hq => ?_) <;> (try simp at hq) <;> simp -implicitDefEqProofs [*, downTo, hyz, minL, minF, ite_min, ite_max, ite_max2, e1, e2]) | (with_reducible refine gOps_split (fun hq => ?_) (fun hq => ?_) <;> (try simp at hq) <;> simp -implicitDefEqProofs [*, downTo, hyz, minL, minF, ite_min, ite_max, ite_max2, e1, e2]) | (with_reducible refine condC_dec (fun _ => ?_) (fun _ => ?_) <;> simp -implicitDefEqProofs [*, downTo, hyz, minL, minF, ite_min, ite_max, ite_max2, e1, e2]) | (with_reducible refine condC_ndec (fun _ => ?_) (fun _ => ?_) <;> simp -implicitDefEqProofs [*, downTo, hyz, minL, minF, ite_min, ite_max, ite_max2, e1, e2]) | (with_reducible refine condC_and (fun hq => ?_) (fun hq => ?_) <;> (try simp at hq) <;> simp -implicitDefEqProofs [*, downTo, hyz, minL, minF, ite_min, ite_max, ite_max2, e1, e2]) | (with_reducible refine condC_or (fun hq => ?_) (fun hq => ?_) <;> (try simp at hq) <;> simp -implicitDefEqProofs [*, downTo, hyz, minL, minF, ite_min, ite_max, ite_max2, e1, e2]) | (with_reducible refine condC_not (fun hq => ?_) (fun hq => ?_) <;> (try simp at hq) <;> simp -implicitDefEqProofs [*, downTo, hyz, minL, minF, ite_min, ite_max, ite_max2, e1, e2]) | (with_reducible refine condC_split (fun hq => ?_) (fun hq => ?_) <;> (try simp at hq) <;> simp -implicitDefEqProofs [*, downTo, hyz, minL, minF, ite_min, ite_max, ite_max2, e1, e2]) | (refine appK2_if (by omega) ?_; simp -implicitDefEqProofs [*, downTo, hyz, minL, minF, ite_min, ite_max, ite_max2, e1, e2]) | (refine pureV_if (by omega) ?_; simp -implicitDefEqProofs [*, downTo, hyz, minL, minF, ite_min, ite_max, ite_max2, e1, e2]))
          · have hs : ¬ cutAB (c % 16) (d % 16) = cutAB (a % 16) (b % 16) := fun e => e2 (hcc.1 e).2
            simp [hs] at g4 
            clear hcc hs
            cases O
            all_goals
              simp -implicitDefEqProofs [c_gimmallaw15_CutOther, cutsD]
              repeat' (first | (refine callThen_of (by first | exact law15_awake | exact g1 | exact g2 | exact g3 | exact g4 | exact law_Num _) ?_; simp -implicitDefEqProofs [*, downTo, hyz]) | (with_reducible refine gOps_dec (fun _ => ?_) (fun _ => ?_) <;> simp -implicitDefEqProofs [*, downTo, hyz]) | (with_reducible refine gOps_ndec (fun _ => ?_) (fun _ => ?_) <;> simp -implicitDefEqProofs [*, downTo, hyz]) | (with_reducible refine gOps_and (fun hq => ?_) (fun hq => ?_) <;> (try simp at hq) <;> simp -implicitDefEqProofs [*, downTo, hyz]) | (with_reducible refine gOps_or (fun hq => ?_) (fun hq => ?_) <;> (try simp at hq) <;> simp -implicitDefEqProofs [*, downTo, hyz]) | (with_reducible refine gOps_not (fun hq => ?_) (fun hq => ?_) <;> (try simp at hq) <;> simp -implicitDefEqProofs [*, downTo, hyz]) | (with_reducible refine gOps_split (fun hq => ?_) (fun hq => ?_) <;> (try simp at hq) <;> simp -implicitDefEqProofs [*, downTo, hyz]) | (with_reducible refine condC_dec (fun _ => ?_) (fun _ => ?_) <;> simp -implicitDefEqProofs [*, downTo, hyz]) | (with_reducible refine condC_ndec (fun _ => ?_) (fun _ => ?_) <;> simp -implicitDefEqProofs [*, downTo, hyz]) | (with_reducible refine condC_and (fun hq => ?_) (fun hq => ?_) <;> (try simp at hq) <;> simp -implicitDefEqProofs [*, downTo, hyz]) | (with_reducible refine condC_or (fun hq => ?_) (fun hq => ?_) <;> (try simp at hq) <;> simp -implicitDefEqProofs [*, downTo, hyz]) | (with_reducible refine condC_not (fun hq => ?_) (fun hq => ?_) <;> (try simp at hq) <;> simp -implicitDefEqProofs [*, downTo, hyz]) | (with_reducible refine condC_split (fun hq => ?_) (fun hq => ?_) <;> (try simp at hq) <;> simp -implicitDefEqProofs [*, downTo, hyz]) | (refine appK2_if (by omega) ?_; simp -implicitDefEqProofs [*, downTo, hyz]) | (refine pureV_if (by omega) ?_; simp -implicitDefEqProofs [*, downTo, hyz]))
              all_goals simp -implicitDefEqProofs [minL, minF, ite_min, ite_max, ite_max2, e1, e2]
              all_goals repeat' (first | (refine callThen_of (by first | exact law_Num _) ?_; simp -implicitDefEqProofs [*, downTo, hyz, minL, minF, ite_min, ite_max, ite_max2, e1, e2]) | (with_reducible refine gOps_dec (fun _ => ?_) (fun _ => ?_) <;> simp -implicitDefEqProofs [*, downTo, hyz, minL, minF, ite_min, ite_max, ite_max2, e1, e2]) | (with_reducible refine gOps_ndec (fun _ => ?_) (fun _ => ?_) <;> simp -implicitDefEqProofs [*, downTo, hyz, minL, minF, ite_min, ite_max, ite_max2, e1, e2]) | (with_reducible refine gOps_and (fun hq => ?_) (fun hq => ?_) <;> (try simp at hq) <;> simp -implicitDefEqProofs [*, downTo, hyz, minL, minF, ite_min, ite_max, ite_max2, e1, e2]) | (with_reducible refine gOps_or (fun hq => ?_) (fun hq => ?_) <;> (try simp at hq) <;> simp -implicitDefEqProofs [*, downTo, hyz, minL, minF, ite_min, ite_max, ite_max2, e1, e2]) | (with_reducible refine gOps_not (fun hq => ?_) (fun hq => ?_) <;> (try simp at hq) <;> simp -implicitDefEqProofs [*, downTo, hyz, minL, minF, ite_min, ite_max, ite_max2, e1, e2]) | (with_reducible refine gOps_split (fun hq => ?_) (fun hq => ?_) <;> (try simp at hq) <;> simp -implicitDefEqProofs [*, downTo, hyz, minL, minF, ite_min, ite_max, ite_max2, e1, e2]) | (with_reducible refine condC_dec (fun _ => ?_) (fun _ => ?_) <;> simp -implicitDefEqProofs [*, downTo, hyz, minL, minF, ite_min, ite_max, ite_max2, e1, e2]) | (with_reducible refine condC_ndec (fun _ => ?_) (fun _ => ?_) <;> simp -implicitDefEqProofs [*, downTo, hyz, minL, minF, ite_min, ite_max, ite_max2, e1, e2]) | (with_reducible refine condC_and (fun hq => ?_) (fun hq => ?_) <;> (try simp at hq) <;> simp -implicitDefEqProofs [*, downTo, hyz, minL, minF, ite_min, ite_max, ite_max2, e1, e2]) | (with_reducible refine condC_or (fun hq => ?_) (fun hq => ?_) <;> (try simp at hq) <;> simp -implicitDefEqProofs [*, downTo, hyz, minL, minF, ite_min, ite_max, ite_max2, e1, e2]) | (with_reducible refine condC_not (fun hq => ?_) (fun hq => ?_) <;> (try simp at hq) <;> simp -implicitDefEqProofs [*, downTo, hyz, minL, minF, ite_min, ite_max, ite_max2, e1, e2]) | (with_reducible refine condC_split (fun hq => ?_) (fun hq => ?_) <;> (try simp at hq) <;> simp -implicitDefEqProofs [*, downTo, hyz, minL, minF, ite_min, ite_max, ite_max2, e1, e2]) | (refine appK2_if (by omega) ?_; simp -implicitDefEqProofs [*, downTo, hyz, minL, minF, ite_min, ite_max, ite_max2, e1, e2]) | (refine pureV_if (by omega) ?_; simp -implicitDefEqProofs [*, downTo, hyz, minL, minF, ite_min, ite_max, ite_max2, e1, e2]))
        · have hs : ¬ cutAB (c % 16) (d % 16) = cutAB (a % 16) (b % 16) := fun e => e1 (hcc.1 e).1
          simp [hs] at g4 
          clear hcc hs
          cases O
          all_goals
            simp -implicitDefEqProofs [c_gimmallaw15_CutOther, cutsD]
            repeat' (first | (refine callThen_of (by first | exact law15_awake | exact g1 | exact g2 | exact g3 | exact g4 | exact law_Num _) ?_; simp -implicitDefEqProofs [*, downTo, hyz]) | (with_reducible refine gOps_dec (fun _ => ?_) (fun _ => ?_) <;> simp -implicitDefEqProofs [*, downTo, hyz]) | (with_reducible refine gOps_ndec (fun _ => ?_) (fun _ => ?_) <;> simp -implicitDefEqProofs [*, downTo, hyz]) | (with_reducible refine gOps_and (fun hq => ?_) (fun hq => ?_) <;> (try simp at hq) <;> simp -implicitDefEqProofs [*, downTo, hyz]) | (with_reducible refine gOps_or (fun hq => ?_) (fun hq => ?_) <;> (try simp at hq) <;> simp -implicitDefEqProofs [*, downTo, hyz]) | (with_reducible refine gOps_not (fun hq => ?_) (fun hq => ?_) <;> (try simp at hq) <;> simp -implicitDefEqProofs [*, downTo, hyz]) | (with_reducible refine gOps_split (fun hq => ?_) (fun hq => ?_) <;> (try simp at hq) <;> simp -implicitDefEqProofs [*, downTo, hyz]) | (with_reducible refine condC_dec (fun _ => ?_) (fun _ => ?_) <;> simp -implicitDefEqProofs [*, downTo, hyz]) | (with_reducible refine condC_ndec (fun _ => ?_) (fun _ => ?_) <;> simp -implicitDefEqProofs [*, downTo, hyz]) | (with_reducible refine condC_and (fun hq => ?_) (fun hq => ?_) <;> (try simp at hq) <;> simp -implicitDefEqProofs [*, downTo, hyz]) | (with_reducible refine condC_or (fun hq => ?_) (fun hq => ?_) <;> (try simp at hq) <;> simp -implicitDefEqProofs [*, downTo, hyz]) | (with_reducible refine condC_not (fun hq => ?_) (fun hq => ?_) <;> (try simp at hq) <;> simp -implicitDefEqProofs [*, downTo, hyz]) | (with_reducible refine condC_split (fun hq => ?_) (fun hq => ?_) <;> (try simp at hq) <;> simp -implicitDefEqProofs [*, downTo, hyz]) | (refine appK2_if (by omega) ?_; simp -implicitDefEqProofs [*, downTo, hyz]) | (refine pureV_if (by omega) ?_; simp -implicitDefEqProofs [*, downTo, hyz]))
            all_goals simp -implicitDefEqProofs [minL, minF, ite_min, ite_max, ite_max2, e1]
            all_goals repeat' (first | (refine callThen_of (by first | exact law_Num _) ?_; simp -implicitDefEqProofs [*, downTo, hyz, minL, minF, ite_min, ite_max, ite_max2, e1]) | (with_reducible refine gOps_dec (fun _ => ?_) (fun _ => ?_) <;> simp -implicitDefEqProofs [*, downTo, hyz, minL, minF, ite_min, ite_max, ite_max2, e1]) | (with_reducible refine gOps_ndec (fun _ => ?_) (fun _ => ?_) <;> simp -implicitDefEqProofs [*, downTo, hyz, minL, minF, ite_min, ite_max, ite_max2, e1]) | (with_reducible refine gOps_and (fun hq => ?_) (fun hq => ?_) <;> (try simp at hq) <;> simp -implicitDefEqProofs [*, downTo, hyz, minL, minF, ite_min, ite_max, ite_max2, e1]) | (with_reducible refine gOps_or (fun hq => ?_) (fun hq => ?_) <;> (try simp at hq) <;> simp -implicitDefEqProofs [*, downTo, hyz, minL, minF, ite_min, ite_max, ite_max2, e1]) | (with_reducible refine gOps_not (fun hq => ?_) (fun hq => ?_) <;> (try simp at hq) <;> simp -implicitDefEqProofs [*, downTo, hyz, minL, minF, ite_min, ite_max, ite_max2, e1]) | (with_reducible refine gOps_split (fun hq => ?_) (fun hq => ?_) <;> (try simp at hq) <;> simp -implicitDefEqProofs [*, downTo, hyz, minL, minF, ite_min, ite_max, ite_max2, e1]) | (with_reducible refine condC_dec (fun _ => ?_) (fun _ => ?_) <;> simp -implicitDefEqProofs [*, downTo, hyz, minL, minF, ite_min, ite_max, ite_max2, e1]) | (with_reducible refine condC_ndec (fun _ => ?_) (fun _ => ?_) <;> simp -implicitDefEqProofs [*, downTo, hyz, minL, minF, ite_min, ite_max, ite_max2, e1]) | (with_reducible refine condC_and (fun hq => ?_) (fun hq => ?_) <;> (try simp at hq) <;> simp -implicitDefEqProofs [*, downTo, hyz, minL, minF, ite_min, ite_max, ite_max2, e1]) | (with_reducible refine condC_or (fun hq => ?_) (fun hq => ?_) <;> (try simp at hq) <;> simp -implicitDefEqProofs [*, downTo, hyz, minL, minF, ite_min, ite_max, ite_max2, e1]) | (with_reducible refine condC_not (fun hq => ?_) (fun hq => ?_) <;> (try simp at hq) <;> simp -implicitDefEqProofs [*, downTo, hyz, minL, minF, ite_min, ite_max, ite_max2, e1]) | (with_reducible refine condC_split (fun hq => ?_) (fun hq => ?_) <;> (try simp at hq) <;> simp -implicitDefEqProofs [*, downTo, hyz, minL, minF, ite_min, ite_max, ite_max2, e1]) | (refine appK2_if (by omega) ?_; simp -implicitDefEqProofs [*, downTo, hyz, minL, minF, ite_min, ite_max, ite_max2, e1]) | (refine pureV_if (by omega) ?_; simp -implicitDefEqProofs [*, downTo, hyz, minL, minF, ite_min, ite_max, ite_max2, e1]))
      · rw [hw] at g1
        obtain ⟨g5, m1⟩ := hP P hPm
        have hPd : decide (cutAB (c % 16) (d % 16) ∈ P) = (decide (cutAB (c % 16) (d % 16) = cutAB (a % 16) (b % 16)) || decide (cutAB (c % 16) (d % 16) ∈ cs)) := by
          rw [Bool.eq_iff_iff]
          simp [hPi]
        rw [hPd] at g5
        simp only [cutsD] at g1 g2 g3 g4 g5 m1 m2
        clear hw hP hcs hPd hPi hPm
        generalize decide (cutAB (c % 16) (d % 16) ∈ cs) = O at *
        refine den_of [] [] is_gimmallaw15_CutOther ?_
        by_cases e1 : min (a % 16) (b % 16) = min (c % 16) (d % 16)
        · by_cases e2 : max (a % 16) (b % 16) = max (c % 16) (d % 16)
          · have hs := hcc.2 ⟨e1, e2⟩
            simp [hs] at g4 g5
            clear hcc hs
            simp -implicitDefEqProofs [c_gimmallaw15_CutOther, cutsD]
            repeat' (first | (refine callThen_of (by first | exact law15_awake | exact g1 | exact g2 | exact g3 | exact g4 | exact law_Num _) ?_; simp -implicitDefEqProofs [*, downTo, hyz]) | (with_reducible refine gOps_dec (fun _ => ?_) (fun _ => ?_) <;> simp -implicitDefEqProofs [*, downTo, hyz]) | (with_reducible refine gOps_ndec (fun _ => ?_) (fun _ => ?_) <;> simp -implicitDefEqProofs [*, downTo, hyz]) | (with_reducible refine gOps_and (fun hq => ?_) (fun hq => ?_) <;> (try simp at hq) <;> simp -implicitDefEqProofs [*, downTo, hyz]) | (with_reducible refine gOps_or (fun hq => ?_) (fun hq => ?_) <;> (try simp at hq) <;> simp -implicitDefEqProofs [*, downTo, hyz]) | (with_reducible refine gOps_not (fun hq => ?_) (fun hq => ?_) <;> (try simp at hq) <;> simp -implicitDefEqProofs [*, downTo, hyz]) | (with_reducible refine gOps_split (fun hq => ?_) (fun hq => ?_) <;> (try simp at hq) <;> simp -implicitDefEqProofs [*, downTo, hyz]) | (with_reducible refine condC_dec (fun _ => ?_) (fun _ => ?_) <;> simp -implicitDefEqProofs [*, downTo, hyz]) | (with_reducible refine condC_ndec (fun _ => ?_) (fun _ => ?_) <;> simp -implicitDefEqProofs [*, downTo, hyz]) | (with_reducible refine condC_and (fun hq => ?_) (fun hq => ?_) <;> (try simp at hq) <;> simp -implicitDefEqProofs [*, downTo, hyz]) | (with_reducible refine condC_or (fun hq => ?_) (fun hq => ?_) <;> (try simp at hq) <;> simp -implicitDefEqProofs [*, downTo, hyz]) | (with_reducible refine condC_not (fun hq => ?_) (fun hq => ?_) <;> (try simp at hq) <;> simp -implicitDefEqProofs [*, downTo, hyz]) | (with_reducible refine condC_split (fun hq => ?_) (fun hq => ?_) <;> (try simp at hq) <;> simp -implicitDefEqProofs [*, downTo, hyz]) | (refine appK2_if (by omega) ?_; simp -implicitDefEqProofs [*, downTo, hyz]) | (refine pureV_if (by omega) ?_; simp -implicitDefEqProofs [*, downTo, hyz]))
            all_goals simp -implicitDefEqProofs [minL, minF, ite_min, ite_max, ite_max2, e1, e2]
            all_goals repeat' (first | (refine callThen_of (by first | exact g5 | exact m1 | exact m2 | exact law_Num _) ?_; simp -implicitDefEqProofs [*, downTo, hyz, minL, minF, ite_min, ite_max, ite_max2, e1, e2]) | (with_reducible refine gOps_dec (fun _ => ?_) (fun _ => ?_) <;> simp -implicitDefEqProofs [*, downTo, hyz, minL, minF, ite_min, ite_max, ite_max2, e1, e2]) | (with_reducible refine gOps_ndec (fun _ => ?_) (fun _ => ?_) <;> simp -implicitDefEqProofs [*, downTo, hyz, minL, minF, ite_min, ite_max, ite_max2, e1, e2]) | (with_reducible refine gOps_and (fun hq => ?_) (fun hq => ?_) <;> (try simp at hq) <;> simp -implicitDefEqProofs [*, downTo, hyz, minL, minF, ite_min, ite_max, ite_max2, e1, e2]) | (with_reducible refine gOps_or (fun hq => ?_) (fun hq => ?_) <;> (try simp at hq) <;> simp -implicitDefEqProofs [*, downTo, hyz, minL, minF, ite_min, ite_max, ite_max2, e1, e2]) | (with_reducible refine gOps_not (fun hq => ?_) (fun hq => ?_) <;> (try simp at hq) <;> simp -implicitDefEqProofs [*, downTo, hyz, minL, minF, ite_min, ite_max, ite_max2, e1, e2]) | (with_reducible refine gOps_split (fun hq => ?_) (fun hq => ?_) <;> (try simp at hq) <;> simp -implicitDefEqProofs [*, downTo, hyz, minL, minF, ite_min, ite_max, ite_max2, e1, e2]) | (with_reducible refine condC_dec (fun _ => ?_) (fun _ => ?_) <;> simp -implicitDefEqProofs [*, downTo, hyz, minL, minF, ite_min, ite_max, ite_max2, e1, e2]) | (with_reducible refine condC_ndec (fun _ => ?_) (fun _ => ?_) <;> simp -implicitDefEqProofs [*, downTo, hyz, minL, minF, ite_min, ite_max, ite_max2, e1, e2]) | (with_reducible refine condC_and (fun hq => ?_) (fun hq => ?_) <;> (try simp at hq) <;> simp -implicitDefEqProofs [*, downTo, hyz, minL, minF, ite_min, ite_max, ite_max2, e1, e2]) | (with_reducible refine condC_or (fun hq => ?_) (fun hq => ?_) <;> (try simp at hq) <;> simp -implicitDefEqProofs [*, downTo, hyz, minL, minF, ite_min, ite_max, ite_max2, e1, e2]) | (with_reducible refine condC_not (fun hq => ?_) (fun hq => ?_) <;> (try simp at hq) <;> simp -implicitDefEqProofs [*, downTo, hyz, minL, minF, ite_min, ite_max, ite_max2, e1, e2]) | (with_reducible refine condC_split (fun hq => ?_) (fun hq => ?_) <;> (try simp at hq) <;> simp -implicitDefEqProofs [*, downTo, hyz, minL, minF, ite_min, ite_max, ite_max2, e1, e2]) | (refine appK2_if (by omega) ?_; simp -implicitDefEqProofs [*, downTo, hyz, minL, minF, ite_min, ite_max, ite_max2, e1, e2]) | (refine pureV_if (by omega) ?_; simp -implicitDefEqProofs [*, downTo, hyz, minL, minF, ite_min, ite_max, ite_max2, e1, e2]))
          · have hs : ¬ cutAB (c % 16) (d % 16) = cutAB (a % 16) (b % 16) := fun e => e2 (hcc.1 e).2
            simp [hs] at g4 g5
            clear hcc hs
            cases O
            all_goals
              simp -implicitDefEqProofs [c_gimmallaw15_CutOther, cutsD]
              repeat' (first | (refine callThen_of (by first | exact law15_awake | exact g1 | exact g2 | exact g3 | exact g4 | exact law_Num _) ?_; simp -implicitDefEqProofs [*, downTo, hyz]) | (with_reducible refine gOps_dec (fun _ => ?_) (fun _ => ?_) <;> simp -implicitDefEqProofs [*, downTo, hyz]) | (with_reducible refine gOps_ndec (fun _ => ?_) (fun _ => ?_) <;> simp -implicitDefEqProofs [*, downTo, hyz]) | (with_reducible refine gOps_and (fun hq => ?_) (fun hq => ?_) <;> (try simp at hq) <;> simp -implicitDefEqProofs [*, downTo, hyz]) | (with_reducible refine gOps_or (fun hq => ?_) (fun hq => ?_) <;> (try simp at hq) <;> simp -implicitDefEqProofs [*, downTo, hyz]) | (with_reducible refine gOps_not (fun hq => ?_) (fun hq => ?_) <;> (try simp at hq) <;> simp -implicitDefEqProofs [*, downTo, hyz]) | (with_reducible refine gOps_split (fun hq => ?_) (fun hq => ?_) <;> (try simp at hq) <;> simp -implicitDefEqProofs [*, downTo, hyz]) | (with_reducible refine condC_dec (fun _ => ?_) (fun _ => ?_) <;> simp -implicitDefEqProofs [*, downTo, hyz]) | (with_reducible refine condC_ndec (fun _ => ?_) (fun _ => ?_) <;> simp -implicitDefEqProofs [*, downTo, hyz]) | (with_reducible refine condC_and (fun hq => ?_) (fun hq => ?_) <;> (try simp at hq) <;> simp -implicitDefEqProofs [*, downTo, hyz]) | (with_reducible refine condC_or (fun hq => ?_) (fun hq => ?_) <;> (try simp at hq) <;> simp -implicitDefEqProofs [*, downTo, hyz]) | (with_reducible refine condC_not (fun hq => ?_) (fun hq => ?_) <;> (try simp at hq) <;> simp -implicitDefEqProofs [*, downTo, hyz]) | (with_reducible refine condC_split (fun hq => ?_) (fun hq => ?_) <;> (try simp at hq) <;> simp -implicitDefEqProofs [*, downTo, hyz]) | (refine appK2_if (by omega) ?_; simp -implicitDefEqProofs [*, downTo, hyz]) | (refine pureV_if (by omega) ?_; simp -implicitDefEqProofs [*, downTo, hyz]))
              all_goals simp -implicitDefEqProofs [minL, minF, ite_min, ite_max, ite_max2, e1, e2]
              all_goals repeat' (first | (refine callThen_of (by first | exact g5 | exact m1 | exact m2 | exact law_Num _) ?_; simp -implicitDefEqProofs [*, downTo, hyz, minL, minF, ite_min, ite_max, ite_max2, e1, e2]) | (with_reducible refine gOps_dec (fun _ => ?_) (fun _ => ?_) <;> simp -implicitDefEqProofs [*, downTo, hyz, minL, minF, ite_min, ite_max, ite_max2, e1, e2]) | (with_reducible refine gOps_ndec (fun _ => ?_) (fun _ => ?_) <;> simp -implicitDefEqProofs [*, downTo, hyz, minL, minF, ite_min, ite_max, ite_max2, e1, e2]) | (with_reducible refine gOps_and (fun hq => ?_) (fun hq => ?_) <;> (try simp at hq) <;> simp -implicitDefEqProofs [*, downTo, hyz, minL, minF, ite_min, ite_max, ite_max2, e1, e2]) | (with_reducible refine gOps_or (fun hq => ?_) (fun hq => ?_) <;> (try simp at hq) <;> simp -implicitDefEqProofs [*, downTo, hyz, minL, minF, ite_min, ite_max, ite_max2, e1, e2]) | (with_reducible refine gOps_not (fun hq => ?_) (fun hq => ?_) <;> (try simp at hq) <;> simp -implicitDefEqProofs [*, downTo, hyz, minL, minF, ite_min, ite_max, ite_max2, e1, e2]) | (with_reducible refine gOps_split (fun hq => ?_) (fun hq => ?_) <;> (try simp at hq) <;> simp -implicitDefEqProofs [*, downTo, hyz, minL, minF, ite_min, ite_max, ite_max2, e1, e2]) | (with_reducible refine condC_dec (fun _ => ?_) (fun _ => ?_) <;> simp -implicitDefEqProofs [*, downTo, hyz, minL, minF, ite_min, ite_max, ite_max2, e1, e2]) | (with_reducible refine condC_ndec (fun _ => ?_) (fun _ => ?_) <;> simp -implicitDefEqProofs [*, downTo, hyz, minL, minF, ite_min, ite_max, ite_max2, e1, e2]) | (with_reducible refine condC_and (fun hq => ?_) (fun hq => ?_) <;> (try simp at hq) <;> simp -implicitDefEqProofs [*, downTo, hyz, minL, minF, ite_min, ite_max, ite_max2, e1, e2]) | (with_reducible refine condC_or (fun hq => ?_) (fun hq => ?_) <;> (try simp at hq) <;> simp -implicitDefEqProofs [*, downTo, hyz, minL, minF, ite_min, ite_max, ite_max2, e1, e2]) | (with_reducible refine condC_not (fun hq => ?_) (fun hq => ?_) <;> (try simp at hq) <;> simp -implicitDefEqProofs [*, downTo, hyz, minL, minF, ite_min, ite_max, ite_max2, e1, e2]) | (with_reducible refine condC_split (fun hq => ?_) (fun hq => ?_) <;> (try simp at hq) <;> simp -implicitDefEqProofs [*, downTo, hyz, minL, minF, ite_min, ite_max, ite_max2, e1, e2]) | (refine appK2_if (by omega) ?_; simp -implicitDefEqProofs [*, downTo, hyz, minL, minF, ite_min, ite_max, ite_max2, e1, e2]) | (refine pureV_if (by omega) ?_; simp -implicitDefEqProofs [*, downTo, hyz, minL, minF, ite_min, ite_max, ite_max2, e1, e2]))
        · have hs : ¬ cutAB (c % 16) (d % 16) = cutAB (a % 16) (b % 16) := fun e => e1 (hcc.1 e).1
          simp [hs] at g4 g5
          clear hcc hs
          cases O
          all_goals
            simp -implicitDefEqProofs [c_gimmallaw15_CutOther, cutsD]
            repeat' (first | (refine callThen_of (by first | exact law15_awake | exact g1 | exact g2 | exact g3 | exact g4 | exact law_Num _) ?_; simp -implicitDefEqProofs [*, downTo, hyz]) | (with_reducible refine gOps_dec (fun _ => ?_) (fun _ => ?_) <;> simp -implicitDefEqProofs [*, downTo, hyz]) | (with_reducible refine gOps_ndec (fun _ => ?_) (fun _ => ?_) <;> simp -implicitDefEqProofs [*, downTo, hyz]) | (with_reducible refine gOps_and (fun hq => ?_) (fun hq => ?_) <;> (try simp at hq) <;> simp -implicitDefEqProofs [*, downTo, hyz]) | (with_reducible refine gOps_or (fun hq => ?_) (fun hq => ?_) <;> (try simp at hq) <;> simp -implicitDefEqProofs [*, downTo, hyz]) | (with_reducible refine gOps_not (fun hq => ?_) (fun hq => ?_) <;> (try simp at hq) <;> simp -implicitDefEqProofs [*, downTo, hyz]) | (with_reducible refine gOps_split (fun hq => ?_) (fun hq => ?_) <;> (try simp at hq) <;> simp -implicitDefEqProofs [*, downTo, hyz]) | (with_reducible refine condC_dec (fun _ => ?_) (fun _ => ?_) <;> simp -implicitDefEqProofs [*, downTo, hyz]) | (with_reducible refine condC_ndec (fun _ => ?_) (fun _ => ?_) <;> simp -implicitDefEqProofs [*, downTo, hyz]) | (with_reducible refine condC_and (fun hq => ?_) (fun hq => ?_) <;> (try simp at hq) <;> simp -implicitDefEqProofs [*, downTo, hyz]) | (with_reducible refine condC_or (fun hq => ?_) (fun hq => ?_) <;> (try simp at hq) <;> simp -implicitDefEqProofs [*, downTo, hyz]) | (with_reducible refine condC_not (fun hq => ?_) (fun hq => ?_) <;> (try simp at hq) <;> simp -implicitDefEqProofs [*, downTo, hyz]) | (with_reducible refine condC_split (fun hq => ?_) (fun hq => ?_) <;> (try simp at hq) <;> simp -implicitDefEqProofs [*, downTo, hyz]) | (refine appK2_if (by omega) ?_; simp -implicitDefEqProofs [*, downTo, hyz]) | (refine pureV_if (by omega) ?_; simp -implicitDefEqProofs [*, downTo, hyz]))
            all_goals simp -implicitDefEqProofs [minL, minF, ite_min, ite_max, ite_max2, e1]
            all_goals repeat' (first | (refine callThen_of (by first | exact g5 | exact m1 | exact m2 | exact law_Num _) ?_; simp -implicitDefEqProofs [*, downTo, hyz, minL, minF, ite_min, ite_max, ite_max2, e1]) | (with_reducible refine gOps_dec (fun _ => ?_) (fun _ => ?_) <;> simp -implicitDefEqProofs [*, downTo, hyz, minL, minF, ite_min, ite_max, ite_max2, e1]) | (with_reducible refine gOps_ndec (fun _ => ?_) (fun _ => ?_) <;> simp -implicitDefEqProofs [*, downTo, hyz, minL, minF, ite_min, ite_max, ite_max2, e1]) | (with_reducible refine gOps_and (fun hq => ?_) (fun hq => ?_) <;> (try simp at hq) <;> simp -implicitDefEqProofs [*, downTo, hyz, minL, minF, ite_min, ite_max, ite_max2, e1]) | (with_reducible refine gOps_or (fun hq => ?_) (fun hq => ?_) <;> (try simp at hq) <;> simp -implicitDefEqProofs [*, downTo, hyz, minL, minF, ite_min, ite_max, ite_max2, e1]) | (with_reducible refine gOps_not (fun hq => ?_) (fun hq => ?_) <;> (try simp at hq) <;> simp -implicitDefEqProofs [*, downTo, hyz, minL, minF, ite_min, ite_max, ite_max2, e1]) | (with_reducible refine gOps_split (fun hq => ?_) (fun hq => ?_) <;> (try simp at hq) <;> simp -implicitDefEqProofs [*, downTo, hyz, minL, minF, ite_min, ite_max, ite_max2, e1]) | (with_reducible refine condC_dec (fun _ => ?_) (fun _ => ?_) <;> simp -implicitDefEqProofs [*, downTo, hyz, minL, minF, ite_min, ite_max, ite_max2, e1]) | (with_reducible refine condC_ndec (fun _ => ?_) (fun _ => ?_) <;> simp -implicitDefEqProofs [*, downTo, hyz, minL, minF, ite_min, ite_max, ite_max2, e1]) | (with_reducible refine condC_and (fun hq => ?_) (fun hq => ?_) <;> (try simp at hq) <;> simp -implicitDefEqProofs [*, downTo, hyz, minL, minF, ite_min, ite_max, ite_max2, e1]) | (with_reducible refine condC_or (fun hq => ?_) (fun hq => ?_) <;> (try simp at hq) <;> simp -implicitDefEqProofs [*, downTo, hyz, minL, minF, ite_min, ite_max, ite_max2, e1]) | (with_reducible refine condC_not (fun hq => ?_) (fun hq => ?_) <;> (try simp at hq) <;> simp -implicitDefEqProofs [*, downTo, hyz, minL, minF, ite_min, ite_max, ite_max2, e1]) | (with_reducible refine condC_split (fun hq => ?_) (fun hq => ?_) <;> (try simp at hq) <;> simp -implicitDefEqProofs [*, downTo, hyz, minL, minF, ite_min, ite_max, ite_max2, e1]) | (refine appK2_if (by omega) ?_; simp -implicitDefEqProofs [*, downTo, hyz, minL, minF, ite_min, ite_max, ite_max2, e1]) | (refine pureV_if (by omega) ?_; simp -implicitDefEqProofs [*, downTo, hyz, minL, minF, ite_min, ite_max, ite_max2, e1]))
end Go.AM
/- Plain law: cuts among eight places, in any row. -/
namespace Go.AM
set_option linter.unusedSimpArgs false
set_option linter.unusedVariables false

theorem withC_case {cs : List Cut} {a b : Int} (h : askMay cs a b = true) : withC cs a b = ([], 1501) ∨ ∃ P, withC cs a b = (P, 0) ∧ cutsMay P = true ∧ ∀ y, y ∈ P ↔ y = cutAB a b ∨ y ∈ cs := by
  obtain ⟨h1, h2, h3, h4⟩ := askMay_iff.1 h
  have hc := cutAB_ok h2 h3 h4
  unfold withC
  rw [if_pos h]
  by_cases hin : cutAB a b ∈ cs
  · rw [if_pos hin]
    refine .inr ⟨cs, rfl, h1, fun y => ⟨.inr, ?_⟩⟩
    rintro (rfl | h)
    · exact hin
    · exact h
  · rw [if_neg hin]
    by_cases h5 : cs.length = 32
    · rw [if_pos h5]; exact .inl rfl
    · rw [if_neg h5]
      exact .inr ⟨_, rfl, cutsMay_ins h1 hc hin h5, fun y => insC_mem⟩
theorem inc_length : ∀ (xs : List Nat) (m n : Nat), xs.Pairwise (· < ·) → (∀ x ∈ xs, m ≤ x ∧ x < n) → xs.length ≤ n - m := by
  intro xs
  induction xs with
  | nil => intro m n _ _; simp
  | cons x xs ih =>
    intro m n hp h
    rw [List.pairwise_cons] at hp
    have h1 := h x (by simp)
    have h2 := ih (x + 1) n hp.2 fun y hy => ⟨hp.1 y hy, (h y (List.mem_cons_of_mem _ hy)).2⟩
    simp
    omega
/-- A cut's place among the cuts of eight. -/
def rank8 (a b : Nat) : Nat := a * (15 - a) / 2 + (b - a - 1)
theorem rank8_ok : ∀ a b : Fin 8, a < b → rank8 a b < 28 := by decide +kernel
theorem rank8_lt : ∀ a b c d : Fin 8, a < b → c < d → (a.val : Nat) * 256 + b < c.val * 256 + d → rank8 a b < rank8 c d := by decide +kernel
theorem cuts8_length {cs : List Cut} (h : cutsMay cs = true) (h8 : ∀ c ∈ cs, c.b < 8) : cs.length ≤ 28 := by
  obtain ⟨h1, h2, _⟩ := cutsMay_iff.1 h
  have hr : ∀ c ∈ cs, 0 ≤ c.a ∧ c.a < c.b ∧ c.b < 8 := by
    intro c hc
    have := (cutOk_iff c).1 (h1 c hc)
    have := h8 c hc
    omega
  have h3 := inc_length (cs.map fun c => rank8 c.a.toNat c.b.toNat) 0 28 ?_ ?_
  · simpa using h3
  · rw [List.pairwise_map]
    refine h2.imp_of_mem ?_
    intro x y hx hy hlt
    have ax := hr x hx
    have ay := hr y hy
    unfold numC at hlt
    exact rank8_lt ⟨x.a.toNat, by omega⟩ ⟨x.b.toNat, by omega⟩ ⟨y.a.toNat, by omega⟩ ⟨y.b.toNat, by omega⟩ (by simp [Fin.lt_def]; omega) (by simp [Fin.lt_def]; omega) (by simp; omega)
  · intro r hr2
    obtain ⟨c, hc, rfl⟩ := List.mem_map.1 hr2
    have ac := hr c hc
    exact ⟨by omega, rank8_ok ⟨c.a.toNat, by omega⟩ ⟨c.b.toNat, by omega⟩ (by simp [Fin.lt_def]; omega)⟩
structure Cut8 (cs : List Cut) (W : List Bool) : Prop where
  may : cutsMay cs = true
  eight : ∀ c ∈ cs, c.b < 8
  len : W.length = 64
  mem : ∀ a b : Nat, a < b → b < 8 → W[8 * a + b]? = some (decide ((⟨(a : Int), (b : Int)⟩ : Cut) ∈ cs))
theorem cut8_nil : Cut8 [] (List.replicate 64 false) := by
  refine ⟨by decide, by simp, by simp, fun a b hab hb => ?_⟩
  rw [List.getElem?_replicate, if_pos (by omega)]
  simp
theorem ix8 {a b c d : Nat} (hb : b < 8) (hd : d < 8) (h : 8 * a + b = 8 * c + d) : a = c ∧ b = d := by omega
theorem cutAB_nat (p q : Nat) : cutAB p q = ⟨((min p q : Nat) : Int), ((max p q : Nat) : Int)⟩ := by
  unfold cutAB
  congr 1 <;> omega
theorem cut8_with {cs : List Cut} {W : List Bool} (h : Cut8 cs W) {p q : Nat} (hp : p < 8) (hq : q < 8) (hn : p ≠ q) :
    ∃ P, withC cs p q = (P, 0) ∧ Cut8 P (W.set (8 * min p q + max p q) true) := by
  have pp : place (p : Int) = true := by rw [place_iff]; omega
  have pq : place (q : Int) = true := by rw [place_iff]; omega
  have hask : askMay cs p q = true := askMay_iff.2 ⟨h.may, pp, pq, by omega⟩
  have hl := cuts8_length h.may h.eight
  have hlen := h.len
  rcases withC_case hask with h2 | ⟨P, h2, h3, h4⟩
  · exfalso
    unfold withC at h2
    rw [if_pos hask] at h2
    split at h2
    · simp at h2
    · rw [if_neg (by omega)] at h2
      simp at h2
  · refine ⟨P, h2, h3, fun c hc => ?_, by simp [hlen], fun a b hab hb => ?_⟩
    · rcases (h4 c).1 hc with rfl | hc
      · rw [cutAB_nat]
        show ((max p q : Nat) : Int) < 8
        omega
      · exact h.eight c hc
    · rw [List.getElem?_set]
      by_cases e : 8 * min p q + max p q = 8 * a + b
      · obtain ⟨e1, e2⟩ := ix8 (by omega) hb e
        rw [if_pos e, if_pos (by omega)]
        have : (⟨(a : Int), (b : Int)⟩ : Cut) = cutAB p q := by rw [cutAB_nat, e1, e2]
        rw [this]
        simp [h4]
      · rw [if_neg e, h.mem a b hab hb]
        have : (⟨(a : Int), (b : Int)⟩ : Cut) ≠ cutAB p q := by
          rw [cutAB_nat]
          intro e2
          injection e2 with e3 e4
          exact e (by omega)
        simp [h4, this]
theorem cut8_without {cs : List Cut} {W : List Bool} (h : Cut8 cs W) {p q : Nat} (hp : p < 8) (hq : q < 8) (hn : p ≠ q) :
    ∃ P, withoutC cs q p = (P, 0) ∧ Cut8 P (W.set (8 * min p q + max p q) false) := by
  have pp : place (p : Int) = true := by rw [place_iff]; omega
  have pq : place (q : Int) = true := by rw [place_iff]; omega
  have hask : askMay cs q p = true := askMay_iff.2 ⟨h.may, pq, pp, by omega⟩
  have hlen := h.len
  refine ⟨cs.filter fun x => !decide (x = cutAB q p), by unfold withoutC; rw [if_pos hask], cutsMay_filter h.may, fun c hc => h.eight c (List.mem_filter.1 hc).1, by simp [hlen], fun a b hab hb => ?_⟩
  rw [cutAB_comm, List.getElem?_set]
  by_cases e : 8 * min p q + max p q = 8 * a + b
  · obtain ⟨e1, e2⟩ := ix8 (by omega) hb e
    rw [if_pos e, if_pos (by omega)]
    have : (⟨(a : Int), (b : Int)⟩ : Cut) = cutAB p q := by rw [cutAB_nat, e1, e2]
    rw [this]
    simp
  · rw [if_neg e, h.mem a b hab hb]
    have : (⟨(a : Int), (b : Int)⟩ : Cut) ≠ cutAB p q := by
      rw [cutAB_nat]
      intro e2
      injection e2 with e3 e4
      exact e (by omega)
    simp [this]
theorem cut8_is {cs : List Cut} {W : List Bool} (h : Cut8 cs W) {a b : Nat} (hab : a < b) (hb : b < 8) : ∃ o, isC cs b a = (o, 0) ∧ W[8 * a + b]? = some o := by
  have pa : place (a : Int) = true := by rw [place_iff]; omega
  have pb : place (b : Int) = true := by rw [place_iff]; omega
  refine ⟨decide ((⟨(a : Int), (b : Int)⟩ : Cut) ∈ cs), ?_, h.mem a b hab hb⟩
  unfold isC
  rw [if_pos (askMay_iff.2 ⟨h.may, pb, pa, by omega⟩), cutAB_comm, cutAB_nat, Nat.min_eq_left (by omega), Nat.max_eq_right (by omega)]
end Go.AM
/- AM: chapter 15's statements: CutRow. -/
namespace Go.AM
set_option linter.unusedSimpArgs false
set_option linter.unusedVariables false
set_option maxRecDepth 8000
set_option maxHeartbeats 0
def row15 (cs : List Cut) (z : D) (W : List Bool) (bs : List Blk) : Prop := (∃ kd : Kind, (kd = .mut ∨ kd = .app) ∧ bs = [⟨[], 2, kd⟩, ⟨[W.map D.bool], 64, .box⟩]) ∧ ((z = .ref 0 0 0 ∧ cs = []) ∨ z = .sl (cs.map Cut.row) cs.length)
theorem law15_CutRow (xs : List Int) (hl : xs.length ≤ cap) : Den PP 11 [intsD xs] [] (.bool true) [] := by
  unfold cap at hl
  refine den_of [] [] is_gimmallaw15_CutRow ?_
  simp -implicitDefEqProofs [c_gimmallaw15_CutRow, intsD]
  refine callThen_of law15_awake ?_
  simp -implicitDefEqProofs []
  obtain ⟨n, hn⟩ : ∃ n, min xs.length 40 = n := ⟨_, rfl⟩
  have hnl : n ≤ xs.length := by omega
  have hn40 : n ≤ 40 := by omega
  have hnx : n = xs.length ∨ n = 40 := by omega
  clear hn
  refine count_rule n (fun i => fun ⟨fr, bs⟩ => ∃ cs W, Cut8 cs W ∧ row15 cs (fr 3) W bs ∧ fr 0 = intsD xs ∧ fr 4 = .ptr 1 0 0 ∧ fr 5 = .int .i64 i)
    (fun ⟨fr, bs⟩ => ∃ cs W, Cut8 cs W ∧ row15 cs (fr 3) W bs ∧ fr 4 = .ptr 1 0 0) (fun _ => False) c_gimmallaw15_CutRow_L0.eq_1 ?_ ?_ ?_ ?_ ?_
  · exact ⟨[], List.replicate 64 false, cut8_nil, ⟨⟨.mut, .inl rfl, rfl⟩, .inl ⟨rfl, rfl⟩⟩, rfl, rfl, rfl⟩
  · rintro ⟨fr, bs⟩ ⟨cs, W, hC, hrow, h0, h4, h5⟩
    by_cases hx : n < xs.length
    · have hx1 : (n : Int) < xs.length := by omega
      have hx2 : ¬ (n : Int) < 40 := by omega
      simp -implicitDefEqProofs [h0, h4, h5, hx1, hx2, intsD]
      exact ⟨cs, W, hC, hrow⟩
    · have hx1 : ¬ (n : Int) < xs.length := by omega
      simp -implicitDefEqProofs [h0, h4, h5, hx1, intsD]
      exact ⟨cs, W, hC, hrow⟩
  · rintro i ⟨fr, bs⟩ hlt ⟨cs, W, hC, ⟨⟨kd, hkd, rfl⟩, hz⟩, h0, h4, h5⟩
    have hi1 : (i : Int) < xs.length := by omega
    have hi2 : (i : Int) < 40 := by omega
    have hi3 : i < xs.length := by omega
    have hw := wrap_next (n := i) (by omega)
    obtain ⟨x, hx⟩ : ∃ x, xs[i] = x := ⟨_, rfl⟩
    have hx' : xs[i]? = some x := by simp [hi3, hx]
    obtain ⟨p, hp⟩ : ∃ p : Nat, x % 8 = p := ⟨(x % 8).toNat, by omega⟩
    have hp8 : p < 8 := by omega
    obtain ⟨q, hq⟩ : ∃ q : Nat, x.fdiv (2 ^ min 3 IntKind.i64.bits) % 8 = q := ⟨(x.fdiv (2 ^ min 3 IntKind.i64.bits) % 8).toNat, by omega⟩
    have hq8 : q < 8 := by omega
    by_cases hpq : p = q
    · subst hpq
      rcases hkd with rfl | rfl <;> rcases hz with ⟨hz, rfl⟩ | hz
      all_goals
        simp -implicitDefEqProofs [h0, h4, h5, hz, hi1, hi2, hi3, hx, hx', intsD, irow, hp, hq, hw]
        exact ⟨_, W, hC, ⟨⟨_, by simp, rfl⟩, by simp⟩⟩
    · obtain ⟨P, c1, hC1⟩ := cut8_with hC hp8 hq8 hpq
      obtain ⟨Q, c2, hC2⟩ := cut8_without hC hp8 hq8 hpq
      have hlen := hC.len
      have g1 := cuts_With cs p q (by have := cuts8_length hC.may hC.eight; unfold cap; omega)
      have g2 := cuts_Without cs q p (by have := cuts8_length hC.may hC.eight; unfold cap; omega)
      rw [c1] at g1
      rw [c2] at g2
      obtain ⟨mn, hmn⟩ : ∃ mn, min p q = mn := ⟨_, rfl⟩
      obtain ⟨mx, hmx⟩ : ∃ mx, max p q = mx := ⟨_, rfl⟩
      rw [hmn, hmx] at hC1 hC2
      have im : (if q < p then (q : Int) else (p : Int)) = mn := by omega
      have ix : (if p < q then (q : Int) else (p : Int)) = mx := by omega
      have wm : IntKind.wrap .i64 (8 * (mn : Int)) = 8 * mn := wrap_in (by omega) (by omega)
      have wk : IntKind.wrap .i64 (8 * (mn : Int) + mx) = ((8 * mn + mx : Nat) : Int) := by rw [wrap_in (by omega) (by omega)]; omega
      have hk64 : 8 * mn + mx < 64 := by omega
      have hpq' : ¬ (p : Int) = q := by omega
      clear hmn hmx c1 c2 hC
      generalize 8 * mn + mx = k at *
      have hk64' : (k : Int) < 64 := by omega
      have hk63 : k ≤ 63 := by omega
      have hsp := fun b => splice_map D.bool W k b (by omega)
      have hsp2 : ∀ b, List.take k ((W.set k true).map D.bool) ++ D.bool b :: List.drop (k + 1) ((W.set k true).map D.bool) = (W.set k b).map D.bool := by
        intro b
        rw [splice_map D.bool (W.set k true) k b (by simp; omega), List.set_set]
      have hl2 : (W.set k true).length = 64 := by simp [hlen]
      simp only [cutsD] at g1 g2
      rcases hkd with rfl | rfl <;> rcases hz with ⟨hz, rfl⟩ | hz
      all_goals
        try simp only [List.map_nil, List.length_nil] at g1 g2
        simp -implicitDefEqProofs [h0, h4, h5, hz, hi1, hi2, hi3, hx, hx', intsD, irow, hp, hq, hpq', minL, minF, ite_min, ite_max, ite_max2, im, ix, wm, wk]
        refine callThen_of g1 ?_
        simp -implicitDefEqProofs [h0, h4, h5, hz, hi1, hi2, hi3, hx, hx', intsD, irow, hp, hq, hlen, hk63, hk64, hk64', hsp, downTo]
        refine condC_dec (fun hc => ?_) (fun hc => ?_)
        · simp -implicitDefEqProofs [h0, h4, h5, hz, hi1, hi2, hi3, hx, hx', intsD, irow, hp, hq, hlen, hk63, hk64, hk64', hsp, downTo]
          refine callThen_of g2 ?_
          simp -implicitDefEqProofs [h0, h4, h5, hz, hi1, hi2, hi3, hx, hx', intsD, irow, hp, hq, hlen, hk63, hk64, hk64', hsp, hsp2, hl2, downTo]
          refine callThen_of (law_Num _) ?_
          simp -implicitDefEqProofs [h0, h4, h5, hw, intsD]
          refine ⟨Q, W.set k false, hC2, ?_⟩
          simp [row15, List.map_set]
          have h9 := hsp2 false
          rw [List.map_set, List.map_set] at h9
          exact h9
        · simp -implicitDefEqProofs [h0, h4, h5, hz, hi1, hi2, hi3, hx, hx', intsD, irow, hp, hq, hlen, hk63, hk64, hk64', hsp, downTo]
          refine callThen_of (law_Num _) ?_
          simp -implicitDefEqProofs [h0, h4, h5, hw, intsD]
          refine ⟨P, W.set k true, hC1, ?_⟩
          simp [row15, List.map_set]
  · rintro ⟨fr, bs⟩ ⟨cs, W, hC, ⟨⟨kd0, hkd0, rfl⟩, hz0⟩, h4⟩
    have hrow : row15 cs (fr 3) W [⟨[], 2, kd0⟩, ⟨[W.map D.bool], 64, .box⟩] := ⟨⟨kd0, hkd0, rfl⟩, hz0⟩
    have hl28 := cuts8_length hC.may hC.eight
    have g3 := fun (a b : Nat) => cuts_Is cs b a (by unfold cap; omega)
    have g4 := cuts_May cs (by unfold cap; omega)
    rw [hC.may] at g4
    have hlen := hC.len
    simp -implicitDefEqProofs [h4]
    refine count_rule 8 (fun a => fun ⟨fr, bs⟩ => row15 cs (fr 3) W bs ∧ fr 4 = .ptr 1 0 0 ∧ fr 11 = .int .i64 a)
      (fun ⟨fr, bs⟩ => row15 cs (fr 3) W bs) (fun _ => False) c_gimmallaw15_CutRow_L1.eq_1 ?_ ?_ ?_ ?_ ?_
    · exact ⟨hrow, h4, rfl⟩
    · rintro ⟨fr, bs⟩ ⟨hrow, h4, h11⟩
      simp -implicitDefEqProofs [h4, h11]
      exact hrow
    · rintro a ⟨fr, bs⟩ ha ⟨⟨⟨kd1, hkd1, rfl⟩, hz1⟩, h4, h11⟩
      have hrow : row15 cs (fr 3) W [⟨[], 2, kd1⟩, ⟨[W.map D.bool], 64, .box⟩] := ⟨⟨kd1, hkd1, rfl⟩, hz1⟩
      have ha2 : (a : Int) < 8 := by omega
      have wa := wrap_next (n := a) (by omega)
      simp -implicitDefEqProofs [h4, h11, ha2, wa]
      refine count_rule (7 - a) (fun j => fun ⟨fr, bs⟩ => row15 cs (fr 3) W bs ∧ fr 4 = .ptr 1 0 0 ∧ fr 11 = .int .i64 a ∧ fr 12 = .int .i64 ((a + 1 + j : Nat) : Int))
        (fun ⟨fr, bs⟩ => row15 cs (fr 3) W bs ∧ fr 4 = .ptr 1 0 0 ∧ fr 11 = .int .i64 a) (fun _ => False) c_gimmallaw15_CutRow_L2.eq_1 ?_ ?_ ?_ ?_ ?_
      · exact ⟨hrow, h4, h11, by simp⟩
      · rintro ⟨fr, bs⟩ ⟨hrow, h4, h11, h12⟩
        have h8 : a + 1 + (7 - a) = 8 := by omega
        rw [h8] at h12
        simp -implicitDefEqProofs [h4, h11, h12]
        exact hrow
      · rintro j ⟨fr, bs⟩ hj ⟨⟨⟨kd, hkd, rfl⟩, hz⟩, h4, h11, h12⟩
        obtain ⟨b, hb⟩ : ∃ b, a + 1 + j = b := ⟨_, rfl⟩
        have hb2 : a + 1 + (j + 1) = b + 1 := by omega
        rw [hb] at h12
        rw [hb2]
        have hb8 : b < 8 := by omega
        have hb8' : (b : Int) < 8 := by omega
        have wb := wrap_next (n := b) (by omega)
        have w1 : IntKind.wrap .i64 (8 * (a : Int)) = 8 * a := wrap_in (by omega) (by omega)
        have w2 : IntKind.wrap .i64 (8 * (a : Int) + b) = ((8 * a + b : Nat) : Int) := by rw [wrap_in (by omega) (by omega)]; omega
        have hk64 : 8 * a + b < 64 := by omega
        obtain ⟨o, ho1, ho2⟩ := cut8_is hC (by omega : a < b) hb8
        have g5 := g3 a b
        rw [ho1] at g5
        simp only [cutsD] at g5
        clear g3 g4 hC ho1 hb hb2
        generalize 8 * a + b = k at *
        have hk64' : (k : Int) < 64 := by omega
        have hk63 : k ≤ 63 := by omega
        have hWk : W[k]'(by omega) = o := (List.getElem?_eq_some_iff.1 ho2).2
        rcases hkd with rfl | rfl <;> rcases hz with ⟨hz, rfl⟩ | hz
        all_goals
          try simp only [List.map_nil, List.length_nil] at g5
          simp -implicitDefEqProofs [h4, h11, h12, hz, hb8']
          refine callThen_of g5 ?_
          simp -implicitDefEqProofs [h4, h11, h12, hz, hb8', downTo]
          refine callThen_of (law_Num _) ?_
          simp -implicitDefEqProofs [h4, h11, h12, hz, hb8', w1, w2, hk63, hk64, hk64', hlen, ho2, hWk, wb, downTo]
          exact ⟨⟨_, by simp, rfl⟩, by simp⟩
      · rintro ⟨fr, bs⟩ ⟨⟨⟨kd, hkd, rfl⟩, hz⟩, h4, h11⟩
        rcases hz with ⟨hz, rfl⟩ | hz
        all_goals
          simp -implicitDefEqProofs [h4, h11, hz, wa]
          exact ⟨⟨_, hkd, rfl⟩, by simp⟩
      · rintro ⟨fr, bs⟩ h
        exact h.elim
    · rintro ⟨fr, bs⟩ ⟨⟨kd, hkd, rfl⟩, hz⟩
      clear g3
      simp only [cutsD] at g4
      rcases hkd with rfl | rfl <;> rcases hz with ⟨hz, rfl⟩ | hz
      all_goals
        try simp only [List.map_nil, List.length_nil] at g4
        simp -implicitDefEqProofs [hz]
        refine callThen_of g4 ?_
        simp -implicitDefEqProofs [hz]
    · rintro ⟨fr, bs⟩ h
      exact h.elim
  · rintro ⟨fr, bs⟩ h
    exact h.elim
end Go.AM
