/- What the proof of this claim stands on, part 11. -/
import Derived.Test.YtbchikkljpmocaaAmZ10
/- AM: contracts: items, stores, nodes. -/
namespace Go.AM
set_option linter.unusedSimpArgs false
set_option linter.unusedVariables false
set_option maxRecDepth 8000
set_option maxHeartbeats 0
theorem version_May (c w : Int) : Den PP 116 [.agg [.int .i64 c, .int .i64 w]] [] (.bool (verMay c w)) [] := by
  refine den_of [] [] is_version_May ?_
  simp -implicitDefEqProofs [c_version_May]
  repeat' (first | (refine callThen_of (by first | exact ring_Place _) ?_; simp -implicitDefEqProofs [*, verMay]) | (with_reducible refine gOps_dec (fun _ => ?_) (fun _ => ?_) <;> simp -implicitDefEqProofs [*, verMay]) | (with_reducible refine gOps_ndec (fun _ => ?_) (fun _ => ?_) <;> simp -implicitDefEqProofs [*, verMay]) | (with_reducible refine gOps_and (fun hq => ?_) (fun hq => ?_) <;> (try simp at hq) <;> simp -implicitDefEqProofs [*, verMay]) | (with_reducible refine gOps_or (fun hq => ?_) (fun hq => ?_) <;> (try simp at hq) <;> simp -implicitDefEqProofs [*, verMay]) | (with_reducible refine gOps_not (fun hq => ?_) (fun hq => ?_) <;> (try simp at hq) <;> simp -implicitDefEqProofs [*, verMay]) | (with_reducible refine gOps_split (fun hq => ?_) (fun hq => ?_) <;> (try simp at hq) <;> simp -implicitDefEqProofs [*, verMay]) | (with_reducible refine condC_dec (fun _ => ?_) (fun _ => ?_) <;> simp -implicitDefEqProofs [*, verMay]) | (with_reducible refine condC_ndec (fun _ => ?_) (fun _ => ?_) <;> simp -implicitDefEqProofs [*, verMay]) | (with_reducible refine condC_and (fun hq => ?_) (fun hq => ?_) <;> (try simp at hq) <;> simp -implicitDefEqProofs [*, verMay]) | (with_reducible refine condC_or (fun hq => ?_) (fun hq => ?_) <;> (try simp at hq) <;> simp -implicitDefEqProofs [*, verMay]) | (with_reducible refine condC_not (fun hq => ?_) (fun hq => ?_) <;> (try simp at hq) <;> simp -implicitDefEqProofs [*, verMay]) | (with_reducible refine condC_split (fun hq => ?_) (fun hq => ?_) <;> (try simp at hq) <;> simp -implicitDefEqProofs [*, verMay]) | (refine appK2_if (by omega) ?_; simp -implicitDefEqProofs [*, verMay]) | (refine pureV_if (by omega) ?_; simp -implicitDefEqProofs [*, verMay]))
theorem ref_VersionMay (c w : Int) : Den PP 93 [.agg [.int .i64 c, .int .i64 w]] [] (.bool (verMay c w)) [] := by
  refine den_of [] [] is_gimmalref1_VersionMay ?_
  simp -implicitDefEqProofs [c_gimmalref1_VersionMay]
  repeat' (first | (refine callThen_of (by first | exact ref_PlaceMay _) ?_; simp -implicitDefEqProofs [*, verMay]) | (with_reducible refine gOps_dec (fun _ => ?_) (fun _ => ?_) <;> simp -implicitDefEqProofs [*, verMay]) | (with_reducible refine gOps_ndec (fun _ => ?_) (fun _ => ?_) <;> simp -implicitDefEqProofs [*, verMay]) | (with_reducible refine gOps_and (fun hq => ?_) (fun hq => ?_) <;> (try simp at hq) <;> simp -implicitDefEqProofs [*, verMay]) | (with_reducible refine gOps_or (fun hq => ?_) (fun hq => ?_) <;> (try simp at hq) <;> simp -implicitDefEqProofs [*, verMay]) | (with_reducible refine gOps_not (fun hq => ?_) (fun hq => ?_) <;> (try simp at hq) <;> simp -implicitDefEqProofs [*, verMay]) | (with_reducible refine gOps_split (fun hq => ?_) (fun hq => ?_) <;> (try simp at hq) <;> simp -implicitDefEqProofs [*, verMay]) | (with_reducible refine condC_dec (fun _ => ?_) (fun _ => ?_) <;> simp -implicitDefEqProofs [*, verMay]) | (with_reducible refine condC_ndec (fun _ => ?_) (fun _ => ?_) <;> simp -implicitDefEqProofs [*, verMay]) | (with_reducible refine condC_and (fun hq => ?_) (fun hq => ?_) <;> (try simp at hq) <;> simp -implicitDefEqProofs [*, verMay]) | (with_reducible refine condC_or (fun hq => ?_) (fun hq => ?_) <;> (try simp at hq) <;> simp -implicitDefEqProofs [*, verMay]) | (with_reducible refine condC_not (fun hq => ?_) (fun hq => ?_) <;> (try simp at hq) <;> simp -implicitDefEqProofs [*, verMay]) | (with_reducible refine condC_split (fun hq => ?_) (fun hq => ?_) <;> (try simp at hq) <;> simp -implicitDefEqProofs [*, verMay]) | (refine appK2_if (by omega) ?_; simp -implicitDefEqProofs [*, verMay]) | (refine pureV_if (by omega) ?_; simp -implicitDefEqProofs [*, verMay]))
theorem item_Byte (x : Int) : Den PP 85 [.int .i64 x] [] (.bool (byte x)) [] := by
  refine den_of [] [] is_item_Byte ?_
  simp -implicitDefEqProofs [c_item_Byte]
  repeat' (first | (with_reducible refine gOps_dec (fun _ => ?_) (fun _ => ?_) <;> simp -implicitDefEqProofs [*, byte]) | (with_reducible refine gOps_ndec (fun _ => ?_) (fun _ => ?_) <;> simp -implicitDefEqProofs [*, byte]) | (with_reducible refine gOps_and (fun hq => ?_) (fun hq => ?_) <;> (try simp at hq) <;> simp -implicitDefEqProofs [*, byte]) | (with_reducible refine gOps_or (fun hq => ?_) (fun hq => ?_) <;> (try simp at hq) <;> simp -implicitDefEqProofs [*, byte]) | (with_reducible refine gOps_not (fun hq => ?_) (fun hq => ?_) <;> (try simp at hq) <;> simp -implicitDefEqProofs [*, byte]) | (with_reducible refine gOps_split (fun hq => ?_) (fun hq => ?_) <;> (try simp at hq) <;> simp -implicitDefEqProofs [*, byte]) | (with_reducible refine condC_dec (fun _ => ?_) (fun _ => ?_) <;> simp -implicitDefEqProofs [*, byte]) | (with_reducible refine condC_ndec (fun _ => ?_) (fun _ => ?_) <;> simp -implicitDefEqProofs [*, byte]) | (with_reducible refine condC_and (fun hq => ?_) (fun hq => ?_) <;> (try simp at hq) <;> simp -implicitDefEqProofs [*, byte]) | (with_reducible refine condC_or (fun hq => ?_) (fun hq => ?_) <;> (try simp at hq) <;> simp -implicitDefEqProofs [*, byte]) | (with_reducible refine condC_not (fun hq => ?_) (fun hq => ?_) <;> (try simp at hq) <;> simp -implicitDefEqProofs [*, byte]) | (with_reducible refine condC_split (fun hq => ?_) (fun hq => ?_) <;> (try simp at hq) <;> simp -implicitDefEqProofs [*, byte]) | (refine appK2_if (by omega) ?_; simp -implicitDefEqProofs [*, byte]) | (refine pureV_if (by omega) ?_; simp -implicitDefEqProofs [*, byte]))
theorem ref_byteMay (x : Int) : Den PP 92 [.int .i64 x] [] (.bool (byte x)) [] := by
  refine den_of [] [] is_gimmalref1_byteMay ?_
  simp -implicitDefEqProofs [c_gimmalref1_byteMay]
  repeat' (first | (with_reducible refine gOps_dec (fun _ => ?_) (fun _ => ?_) <;> simp -implicitDefEqProofs [*, byte]) | (with_reducible refine gOps_ndec (fun _ => ?_) (fun _ => ?_) <;> simp -implicitDefEqProofs [*, byte]) | (with_reducible refine gOps_and (fun hq => ?_) (fun hq => ?_) <;> (try simp at hq) <;> simp -implicitDefEqProofs [*, byte]) | (with_reducible refine gOps_or (fun hq => ?_) (fun hq => ?_) <;> (try simp at hq) <;> simp -implicitDefEqProofs [*, byte]) | (with_reducible refine gOps_not (fun hq => ?_) (fun hq => ?_) <;> (try simp at hq) <;> simp -implicitDefEqProofs [*, byte]) | (with_reducible refine gOps_split (fun hq => ?_) (fun hq => ?_) <;> (try simp at hq) <;> simp -implicitDefEqProofs [*, byte]) | (with_reducible refine condC_dec (fun _ => ?_) (fun _ => ?_) <;> simp -implicitDefEqProofs [*, byte]) | (with_reducible refine condC_ndec (fun _ => ?_) (fun _ => ?_) <;> simp -implicitDefEqProofs [*, byte]) | (with_reducible refine condC_and (fun hq => ?_) (fun hq => ?_) <;> (try simp at hq) <;> simp -implicitDefEqProofs [*, byte]) | (with_reducible refine condC_or (fun hq => ?_) (fun hq => ?_) <;> (try simp at hq) <;> simp -implicitDefEqProofs [*, byte]) | (with_reducible refine condC_not (fun hq => ?_) (fun hq => ?_) <;> (try simp at hq) <;> simp -implicitDefEqProofs [*, byte]) | (with_reducible refine condC_split (fun hq => ?_) (fun hq => ?_) <;> (try simp at hq) <;> simp -implicitDefEqProofs [*, byte]) | (refine appK2_if (by omega) ?_; simp -implicitDefEqProofs [*, byte]) | (refine pureV_if (by omega) ?_; simp -implicitDefEqProofs [*, byte]))
  all_goals omega
theorem ref16_byteMay (x : Int) : Den PP 66 [.int .i64 x] [] (.bool (byte x)) [] := by
  refine den_of [] [] is_gimmalref16_byteMay ?_
  simp -implicitDefEqProofs [c_gimmalref16_byteMay]
  repeat' (first | (with_reducible refine gOps_dec (fun _ => ?_) (fun _ => ?_) <;> simp -implicitDefEqProofs [*, byte]) | (with_reducible refine gOps_ndec (fun _ => ?_) (fun _ => ?_) <;> simp -implicitDefEqProofs [*, byte]) | (with_reducible refine gOps_and (fun hq => ?_) (fun hq => ?_) <;> (try simp at hq) <;> simp -implicitDefEqProofs [*, byte]) | (with_reducible refine gOps_or (fun hq => ?_) (fun hq => ?_) <;> (try simp at hq) <;> simp -implicitDefEqProofs [*, byte]) | (with_reducible refine gOps_not (fun hq => ?_) (fun hq => ?_) <;> (try simp at hq) <;> simp -implicitDefEqProofs [*, byte]) | (with_reducible refine gOps_split (fun hq => ?_) (fun hq => ?_) <;> (try simp at hq) <;> simp -implicitDefEqProofs [*, byte]) | (with_reducible refine condC_dec (fun _ => ?_) (fun _ => ?_) <;> simp -implicitDefEqProofs [*, byte]) | (with_reducible refine condC_ndec (fun _ => ?_) (fun _ => ?_) <;> simp -implicitDefEqProofs [*, byte]) | (with_reducible refine condC_and (fun hq => ?_) (fun hq => ?_) <;> (try simp at hq) <;> simp -implicitDefEqProofs [*, byte]) | (with_reducible refine condC_or (fun hq => ?_) (fun hq => ?_) <;> (try simp at hq) <;> simp -implicitDefEqProofs [*, byte]) | (with_reducible refine condC_not (fun hq => ?_) (fun hq => ?_) <;> (try simp at hq) <;> simp -implicitDefEqProofs [*, byte]) | (with_reducible refine condC_split (fun hq => ?_) (fun hq => ?_) <;> (try simp at hq) <;> simp -implicitDefEqProofs [*, byte]) | (refine appK2_if (by omega) ?_; simp -implicitDefEqProofs [*, byte]) | (refine pureV_if (by omega) ?_; simp -implicitDefEqProofs [*, byte]))
  all_goals omega
theorem item_May (i : Item) : Den PP 108 [.agg i.row] [] (.bool (itemMay i)) [] := by
  refine den_of [] [] is_item_May ?_
  simp -implicitDefEqProofs [c_item_May, Item.row]
  repeat' (first | (refine callThen_of (by first | exact item_Byte _ | exact version_May _ _) ?_; simp -implicitDefEqProofs [*, itemMay]) | (with_reducible refine gOps_dec (fun _ => ?_) (fun _ => ?_) <;> simp -implicitDefEqProofs [*, itemMay]) | (with_reducible refine gOps_ndec (fun _ => ?_) (fun _ => ?_) <;> simp -implicitDefEqProofs [*, itemMay]) | (with_reducible refine gOps_and (fun hq => ?_) (fun hq => ?_) <;> (try simp at hq) <;> simp -implicitDefEqProofs [*, itemMay]) | (with_reducible refine gOps_or (fun hq => ?_) (fun hq => ?_) <;> (try simp at hq) <;> simp -implicitDefEqProofs [*, itemMay]) | (with_reducible refine gOps_not (fun hq => ?_) (fun hq => ?_) <;> (try simp at hq) <;> simp -implicitDefEqProofs [*, itemMay]) | (with_reducible refine gOps_split (fun hq => ?_) (fun hq => ?_) <;> (try simp at hq) <;> simp -implicitDefEqProofs [*, itemMay]) | (with_reducible refine condC_dec (fun _ => ?_) (fun _ => ?_) <;> simp -implicitDefEqProofs [*, itemMay]) | (with_reducible refine condC_ndec (fun _ => ?_) (fun _ => ?_) <;> simp -implicitDefEqProofs [*, itemMay]) | (with_reducible refine condC_and (fun hq => ?_) (fun hq => ?_) <;> (try simp at hq) <;> simp -implicitDefEqProofs [*, itemMay]) | (with_reducible refine condC_or (fun hq => ?_) (fun hq => ?_) <;> (try simp at hq) <;> simp -implicitDefEqProofs [*, itemMay]) | (with_reducible refine condC_not (fun hq => ?_) (fun hq => ?_) <;> (try simp at hq) <;> simp -implicitDefEqProofs [*, itemMay]) | (with_reducible refine condC_split (fun hq => ?_) (fun hq => ?_) <;> (try simp at hq) <;> simp -implicitDefEqProofs [*, itemMay]) | (refine appK2_if (by omega) ?_; simp -implicitDefEqProofs [*, itemMay]) | (refine pureV_if (by omega) ?_; simp -implicitDefEqProofs [*, itemMay]))
theorem ref_ItemMay (i : Item) : Den PP 68 [.agg i.row] [] (.bool (itemMay i)) [] := by
  refine den_of [] [] is_gimmalref1_ItemMay ?_
  simp -implicitDefEqProofs [c_gimmalref1_ItemMay, Item.row]
  repeat' (first | (refine callThen_of (by first | exact ref_byteMay _ | exact ref_VersionMay _ _) ?_; simp -implicitDefEqProofs [*, itemMay]) | (with_reducible refine gOps_dec (fun _ => ?_) (fun _ => ?_) <;> simp -implicitDefEqProofs [*, itemMay]) | (with_reducible refine gOps_ndec (fun _ => ?_) (fun _ => ?_) <;> simp -implicitDefEqProofs [*, itemMay]) | (with_reducible refine gOps_and (fun hq => ?_) (fun hq => ?_) <;> (try simp at hq) <;> simp -implicitDefEqProofs [*, itemMay]) | (with_reducible refine gOps_or (fun hq => ?_) (fun hq => ?_) <;> (try simp at hq) <;> simp -implicitDefEqProofs [*, itemMay]) | (with_reducible refine gOps_not (fun hq => ?_) (fun hq => ?_) <;> (try simp at hq) <;> simp -implicitDefEqProofs [*, itemMay]) | (with_reducible refine gOps_split (fun hq => ?_) (fun hq => ?_) <;> (try simp at hq) <;> simp -implicitDefEqProofs [*, itemMay]) | (with_reducible refine condC_dec (fun _ => ?_) (fun _ => ?_) <;> simp -implicitDefEqProofs [*, itemMay]) | (with_reducible refine condC_ndec (fun _ => ?_) (fun _ => ?_) <;> simp -implicitDefEqProofs [*, itemMay]) | (with_reducible refine condC_and (fun hq => ?_) (fun hq => ?_) <;> (try simp at hq) <;> simp -implicitDefEqProofs [*, itemMay]) | (with_reducible refine condC_or (fun hq => ?_) (fun hq => ?_) <;> (try simp at hq) <;> simp -implicitDefEqProofs [*, itemMay]) | (with_reducible refine condC_not (fun hq => ?_) (fun hq => ?_) <;> (try simp at hq) <;> simp -implicitDefEqProofs [*, itemMay]) | (with_reducible refine condC_split (fun hq => ?_) (fun hq => ?_) <;> (try simp at hq) <;> simp -implicitDefEqProofs [*, itemMay]) | (refine appK2_if (by omega) ?_; simp -implicitDefEqProofs [*, itemMay]) | (refine pureV_if (by omega) ?_; simp -implicitDefEqProofs [*, itemMay]))
def prevKey (is : List Item) (i : Nat) : Option Int := if i = 0 then none else (is[i - 1]?).map Item.key
theorem store_May (is : List Item) (hl : is.length ≤ cap16) : Den PP 103 [itemsD is] [] (.bool (storeMay is)) [] := by
  obtain ⟨A, hA⟩ : ∃ A, itemsOk none is = A := ⟨_, rfl⟩
  unfold cap16 at hl
  refine den_of [] [] is_store_May ?_
  simp -implicitDefEqProofs [c_store_May, itemsD]
  refine list_rule is (fun i rest => fun ⟨fr, bs⟩ => bs = [] ∧ fr 0 = itemsD is ∧ fr 5 = itemsD is ∧ fr 6 = .int .i64 is.length ∧ fr 7 = .int .i64 i ∧ itemsOk (prevKey is i) rest = A)
    (fun ⟨fr, bs⟩ => bs = [] ∧ fr 0 = itemsD is ∧ A = true) (fun ⟨fr, bs⟩ => fr 2 = .bool false ∧ A = false) c_store_May_L0.eq_1 ?_ ?_ ?_ ?_ ?_
  · exact ⟨rfl, rfl, rfl, rfl, rfl, hA⟩
  · rintro i ⟨fr, bs⟩ hi ⟨rfl, h0, h5, h6, h7, he⟩
    simp -implicitDefEqProofs [h0, h5, h6, h7, hi]
    simpa [itemsOk] using he.symm
  · rintro i a rest ⟨fr, bs⟩ hlt hget hg hd hd2 ⟨rfl, h0, h5, h6, h7, he⟩
    have hlt' : (i : Int) < is.length := by omega
    have hw := wrap_next (n := i) (by omega)
    have c1 := item_May a
    simp [Item.row] at c1
    simp only [itemsOk] at he
    have hp : prevKey is (i + 1) = some a.key := by simp [prevKey, hget]
    cases i with
    | zero =>
      simp [prevKey] at he
      simp -implicitDefEqProofs [h0, h5, h6, h7, hlt, hlt', hget, hg, itemsD, Item.row]
      repeat' (first | (refine callThen_of (by first | exact c1) ?_; simp -implicitDefEqProofs [*, itemsD, Item.row, hw]) | (with_reducible refine gOps_dec (fun _ => ?_) (fun _ => ?_) <;> simp -implicitDefEqProofs [*, itemsD, Item.row, hw]) | (with_reducible refine gOps_ndec (fun _ => ?_) (fun _ => ?_) <;> simp -implicitDefEqProofs [*, itemsD, Item.row, hw]) | (with_reducible refine gOps_and (fun hq => ?_) (fun hq => ?_) <;> (try simp at hq) <;> simp -implicitDefEqProofs [*, itemsD, Item.row, hw]) | (with_reducible refine gOps_or (fun hq => ?_) (fun hq => ?_) <;> (try simp at hq) <;> simp -implicitDefEqProofs [*, itemsD, Item.row, hw]) | (with_reducible refine gOps_not (fun hq => ?_) (fun hq => ?_) <;> (try simp at hq) <;> simp -implicitDefEqProofs [*, itemsD, Item.row, hw]) | (with_reducible refine gOps_split (fun hq => ?_) (fun hq => ?_) <;> (try simp at hq) <;> simp -implicitDefEqProofs [*, itemsD, Item.row, hw]) | (with_reducible refine condC_dec (fun _ => ?_) (fun _ => ?_) <;> simp -implicitDefEqProofs [*, itemsD, Item.row, hw]) | (with_reducible refine condC_ndec (fun _ => ?_) (fun _ => ?_) <;> simp -implicitDefEqProofs [*, itemsD, Item.row, hw]) | (with_reducible refine condC_and (fun hq => ?_) (fun hq => ?_) <;> (try simp at hq) <;> simp -implicitDefEqProofs [*, itemsD, Item.row, hw]) | (with_reducible refine condC_or (fun hq => ?_) (fun hq => ?_) <;> (try simp at hq) <;> simp -implicitDefEqProofs [*, itemsD, Item.row, hw]) | (with_reducible refine condC_not (fun hq => ?_) (fun hq => ?_) <;> (try simp at hq) <;> simp -implicitDefEqProofs [*, itemsD, Item.row, hw]) | (with_reducible refine condC_split (fun hq => ?_) (fun hq => ?_) <;> (try simp at hq) <;> simp -implicitDefEqProofs [*, itemsD, Item.row, hw]) | (refine appK2_if (by omega) ?_; simp -implicitDefEqProofs [*, itemsD, Item.row, hw]) | (refine pureV_if (by omega) ?_; simp -implicitDefEqProofs [*, itemsD, Item.row, hw]))
      all_goals grind
    | succ j =>
      have hj : j < is.length := by omega
      have hj' : (j : Int) < is.length := by omega
      have hjw : IntKind.wrap .i64 (j : Int) = j := wrap_in (by omega) (by omega)
      obtain ⟨b, hb⟩ : ∃ b, is[j] = b := ⟨_, rfl⟩
      have hpj : prevKey is (j + 1) = some b.key := by simp [prevKey, hj, hb]
      rw [hpj] at he
      simp -implicitDefEqProofs [h0, h5, h6, h7, hlt, hlt', hget, hg, itemsD, Item.row]
      repeat' (first | (refine callThen_of (by first | exact c1) ?_; simp -implicitDefEqProofs [*, itemsD, Item.row, hw, hb]) | (with_reducible refine gOps_dec (fun _ => ?_) (fun _ => ?_) <;> simp -implicitDefEqProofs [*, itemsD, Item.row, hw, hb]) | (with_reducible refine gOps_ndec (fun _ => ?_) (fun _ => ?_) <;> simp -implicitDefEqProofs [*, itemsD, Item.row, hw, hb]) | (with_reducible refine gOps_and (fun hq => ?_) (fun hq => ?_) <;> (try simp at hq) <;> simp -implicitDefEqProofs [*, itemsD, Item.row, hw, hb]) | (with_reducible refine gOps_or (fun hq => ?_) (fun hq => ?_) <;> (try simp at hq) <;> simp -implicitDefEqProofs [*, itemsD, Item.row, hw, hb]) | (with_reducible refine gOps_not (fun hq => ?_) (fun hq => ?_) <;> (try simp at hq) <;> simp -implicitDefEqProofs [*, itemsD, Item.row, hw, hb]) | (with_reducible refine gOps_split (fun hq => ?_) (fun hq => ?_) <;> (try simp at hq) <;> simp -implicitDefEqProofs [*, itemsD, Item.row, hw, hb]) | (with_reducible refine condC_dec (fun _ => ?_) (fun _ => ?_) <;> simp -implicitDefEqProofs [*, itemsD, Item.row, hw, hb]) | (with_reducible refine condC_ndec (fun _ => ?_) (fun _ => ?_) <;> simp -implicitDefEqProofs [*, itemsD, Item.row, hw, hb]) | (with_reducible refine condC_and (fun hq => ?_) (fun hq => ?_) <;> (try simp at hq) <;> simp -implicitDefEqProofs [*, itemsD, Item.row, hw, hb]) | (with_reducible refine condC_or (fun hq => ?_) (fun hq => ?_) <;> (try simp at hq) <;> simp -implicitDefEqProofs [*, itemsD, Item.row, hw, hb]) | (with_reducible refine condC_not (fun hq => ?_) (fun hq => ?_) <;> (try simp at hq) <;> simp -implicitDefEqProofs [*, itemsD, Item.row, hw, hb]) | (with_reducible refine condC_split (fun hq => ?_) (fun hq => ?_) <;> (try simp at hq) <;> simp -implicitDefEqProofs [*, itemsD, Item.row, hw, hb]) | (refine appK2_if (by omega) ?_; simp -implicitDefEqProofs [*, itemsD, Item.row, hw, hb]) | (refine pureV_if (by omega) ?_; simp -implicitDefEqProofs [*, itemsD, Item.row, hw, hb]))
      all_goals grind
  · rintro ⟨fr, bs⟩ ⟨rfl, h0, h1⟩
    simp -implicitDefEqProofs [h0, itemsD, storeMay, hA, h1]
    omega
  · rintro ⟨fr, bs⟩ h
    simp -implicitDefEqProofs [h.1, h.2, storeMay, hA]
theorem ref_StoreMay (is : List Item) (hl : is.length ≤ cap16) : Den PP 67 [itemsD is] [] (.bool (storeMay is)) [] := by
  obtain ⟨A, hA⟩ : ∃ A, itemsOk none is = A := ⟨_, rfl⟩
  unfold cap16 at hl
  refine den_of [] [] is_gimmalref1_StoreMay ?_
  simp -implicitDefEqProofs [c_gimmalref1_StoreMay, itemsD]
  refine list_rule is (fun i rest => fun ⟨fr, bs⟩ => bs = [] ∧ fr 0 = itemsD is ∧ fr 3 = .int .i64 i ∧ itemsOk (prevKey is i) rest = A)
    (fun ⟨fr, bs⟩ => bs = [] ∧ fr 0 = itemsD is ∧ A = true) (fun ⟨fr, bs⟩ => fr 2 = .bool false ∧ A = false) c_gimmalref1_StoreMay_L0.eq_1 ?_ ?_ ?_ ?_ ?_
  · exact ⟨rfl, rfl, rfl, hA⟩
  · rintro i ⟨fr, bs⟩ hi ⟨rfl, h0, h3, he⟩
    simp -implicitDefEqProofs [h0, h3, hi, itemsD]
    simpa [itemsOk] using he.symm
  · rintro i a rest ⟨fr, bs⟩ hlt hget hg hd hd2 ⟨rfl, h0, h3, he⟩
    have hlt' : (i : Int) < is.length := by omega
    have hw := wrap_next (n := i) (by omega)
    have c1 := ref_ItemMay a
    simp [Item.row] at c1
    simp only [itemsOk] at he
    have hp : prevKey is (i + 1) = some a.key := by simp [prevKey, hget]
    cases i with
    | zero =>
      simp [prevKey] at he
      simp -implicitDefEqProofs [h0, h3, hlt, hlt', hget, hg, itemsD, Item.row]
      repeat' (first | (refine callThen_of (by first | exact c1) ?_; simp -implicitDefEqProofs [*, itemsD, Item.row, hw]) | (with_reducible refine gOps_dec (fun _ => ?_) (fun _ => ?_) <;> simp -implicitDefEqProofs [*, itemsD, Item.row, hw]) | (with_reducible refine gOps_ndec (fun _ => ?_) (fun _ => ?_) <;> simp -implicitDefEqProofs [*, itemsD, Item.row, hw]) | (with_reducible refine gOps_and (fun hq => ?_) (fun hq => ?_) <;> (try simp at hq) <;> simp -implicitDefEqProofs [*, itemsD, Item.row, hw]) | (with_reducible refine gOps_or (fun hq => ?_) (fun hq => ?_) <;> (try simp at hq) <;> simp -implicitDefEqProofs [*, itemsD, Item.row, hw]) | (with_reducible refine gOps_not (fun hq => ?_) (fun hq => ?_) <;> (try simp at hq) <;> simp -implicitDefEqProofs [*, itemsD, Item.row, hw]) | (with_reducible refine gOps_split (fun hq => ?_) (fun hq => ?_) <;> (try simp at hq) <;> simp -implicitDefEqProofs [*, itemsD, Item.row, hw]) | (with_reducible refine condC_dec (fun _ => ?_) (fun _ => ?_) <;> simp -implicitDefEqProofs [*, itemsD, Item.row, hw]) | (with_reducible refine condC_ndec (fun _ => ?_) (fun _ => ?_) <;> simp -implicitDefEqProofs [*, itemsD, Item.row, hw]) | (with_reducible refine condC_and (fun hq => ?_) (fun hq => ?_) <;> (try simp at hq) <;> simp -implicitDefEqProofs [*, itemsD, Item.row, hw]) | (with_reducible refine condC_or (fun hq => ?_) (fun hq => ?_) <;> (try simp at hq) <;> simp -implicitDefEqProofs [*, itemsD, Item.row, hw]) | (with_reducible refine condC_not (fun hq => ?_) (fun hq => ?_) <;> (try simp at hq) <;> simp -implicitDefEqProofs [*, itemsD, Item.row, hw]) | (with_reducible refine condC_split (fun hq => ?_) (fun hq => ?_) <;> (try simp at hq) <;> simp -implicitDefEqProofs [*, itemsD, Item.row, hw]) | (refine appK2_if (by omega) ?_; simp -implicitDefEqProofs [*, itemsD, Item.row, hw]) | (refine pureV_if (by omega) ?_; simp -implicitDefEqProofs [*, itemsD, Item.row, hw]))
      all_goals grind
    | succ j =>
      have hj : j < is.length := by omega
      have hj' : (j : Int) < is.length := by omega
      have hjw : IntKind.wrap .i64 (j : Int) = j := wrap_in (by omega) (by omega)
      obtain ⟨b, hb⟩ : ∃ b, is[j] = b := ⟨_, rfl⟩
      have hpj : prevKey is (j + 1) = some b.key := by simp [prevKey, hj, hb]
      rw [hpj] at he
      simp -implicitDefEqProofs [h0, h3, hlt, hlt', hget, hg, itemsD, Item.row]
      repeat' (first | (refine callThen_of (by first | exact c1) ?_; simp -implicitDefEqProofs [*, itemsD, Item.row, hw, hb]) | (with_reducible refine gOps_dec (fun _ => ?_) (fun _ => ?_) <;> simp -implicitDefEqProofs [*, itemsD, Item.row, hw, hb]) | (with_reducible refine gOps_ndec (fun _ => ?_) (fun _ => ?_) <;> simp -implicitDefEqProofs [*, itemsD, Item.row, hw, hb]) | (with_reducible refine gOps_and (fun hq => ?_) (fun hq => ?_) <;> (try simp at hq) <;> simp -implicitDefEqProofs [*, itemsD, Item.row, hw, hb]) | (with_reducible refine gOps_or (fun hq => ?_) (fun hq => ?_) <;> (try simp at hq) <;> simp -implicitDefEqProofs [*, itemsD, Item.row, hw, hb]) | (with_reducible refine gOps_not (fun hq => ?_) (fun hq => ?_) <;> (try simp at hq) <;> simp -implicitDefEqProofs [*, itemsD, Item.row, hw, hb]) | (with_reducible refine gOps_split (fun hq => ?_) (fun hq => ?_) <;> (try simp at hq) <;> simp -implicitDefEqProofs [*, itemsD, Item.row, hw, hb]) | (with_reducible refine condC_dec (fun _ => ?_) (fun _ => ?_) <;> simp -implicitDefEqProofs [*, itemsD, Item.row, hw, hb]) | (with_reducible refine condC_ndec (fun _ => ?_) (fun _ => ?_) <;> simp -implicitDefEqProofs [*, itemsD, Item.row, hw, hb]) | (with_reducible refine condC_and (fun hq => ?_) (fun hq => ?_) <;> (try simp at hq) <;> simp -implicitDefEqProofs [*, itemsD, Item.row, hw, hb]) | (with_reducible refine condC_or (fun hq => ?_) (fun hq => ?_) <;> (try simp at hq) <;> simp -implicitDefEqProofs [*, itemsD, Item.row, hw, hb]) | (with_reducible refine condC_not (fun hq => ?_) (fun hq => ?_) <;> (try simp at hq) <;> simp -implicitDefEqProofs [*, itemsD, Item.row, hw, hb]) | (with_reducible refine condC_split (fun hq => ?_) (fun hq => ?_) <;> (try simp at hq) <;> simp -implicitDefEqProofs [*, itemsD, Item.row, hw, hb]) | (refine appK2_if (by omega) ?_; simp -implicitDefEqProofs [*, itemsD, Item.row, hw, hb]) | (refine pureV_if (by omega) ?_; simp -implicitDefEqProofs [*, itemsD, Item.row, hw, hb]))
      all_goals grind
  · rintro ⟨fr, bs⟩ ⟨rfl, h0, h1⟩
    simp -implicitDefEqProofs [h0, itemsD, storeMay, hA, h1]
    omega
  · rintro ⟨fr, bs⟩ h
    simp -implicitDefEqProofs [h.1, h.2, storeMay, hA]
theorem node_odd (t : Told) : Den PP 115 [.agg t.row] [] (.bool (toldOdd t)) [] := by
  refine den_of [] [] is_node_odd ?_
  simp -implicitDefEqProofs [c_node_odd, Told.row]
  repeat' (first | (refine callThen_of (by first | exact item_Byte _) ?_; simp -implicitDefEqProofs [*, toldOdd]) | (with_reducible refine gOps_dec (fun _ => ?_) (fun _ => ?_) <;> simp -implicitDefEqProofs [*, toldOdd]) | (with_reducible refine gOps_ndec (fun _ => ?_) (fun _ => ?_) <;> simp -implicitDefEqProofs [*, toldOdd]) | (with_reducible refine gOps_and (fun hq => ?_) (fun hq => ?_) <;> (try simp at hq) <;> simp -implicitDefEqProofs [*, toldOdd]) | (with_reducible refine gOps_or (fun hq => ?_) (fun hq => ?_) <;> (try simp at hq) <;> simp -implicitDefEqProofs [*, toldOdd]) | (with_reducible refine gOps_not (fun hq => ?_) (fun hq => ?_) <;> (try simp at hq) <;> simp -implicitDefEqProofs [*, toldOdd]) | (with_reducible refine gOps_split (fun hq => ?_) (fun hq => ?_) <;> (try simp at hq) <;> simp -implicitDefEqProofs [*, toldOdd]) | (with_reducible refine condC_dec (fun _ => ?_) (fun _ => ?_) <;> simp -implicitDefEqProofs [*, toldOdd]) | (with_reducible refine condC_ndec (fun _ => ?_) (fun _ => ?_) <;> simp -implicitDefEqProofs [*, toldOdd]) | (with_reducible refine condC_and (fun hq => ?_) (fun hq => ?_) <;> (try simp at hq) <;> simp -implicitDefEqProofs [*, toldOdd]) | (with_reducible refine condC_or (fun hq => ?_) (fun hq => ?_) <;> (try simp at hq) <;> simp -implicitDefEqProofs [*, toldOdd]) | (with_reducible refine condC_not (fun hq => ?_) (fun hq => ?_) <;> (try simp at hq) <;> simp -implicitDefEqProofs [*, toldOdd]) | (with_reducible refine condC_split (fun hq => ?_) (fun hq => ?_) <;> (try simp at hq) <;> simp -implicitDefEqProofs [*, toldOdd]) | (refine appK2_if (by omega) ?_; simp -implicitDefEqProofs [*, toldOdd]) | (refine pureV_if (by omega) ?_; simp -implicitDefEqProofs [*, toldOdd]))
end Go.AM
/- AM: contracts: nodes, sharing. -/
namespace Go.AM
set_option linter.unusedSimpArgs false
set_option linter.unusedVariables false
set_option maxRecDepth 8000
set_option maxHeartbeats 0
theorem slices_IndexFunc_Told (xs : List Told) (hl : xs.length ≤ cap) : Den PP 122 [toldsD xs, .fn 115 [] []] [] (.int .i64 (gIdx toldOdd 0 xs)) [] := by
  obtain ⟨A, hA⟩ : ∃ A, gIdx toldOdd 0 xs = A := ⟨_, rfl⟩
  unfold cap at hl
  refine den_of [] [] is_slices_IndexFunc_api_Told_api_Told ?_
  simp -implicitDefEqProofs [c_slices_IndexFunc_api_Told_api_Told, toldsD, hA]
  refine list_rule xs (fun i rest => fun ⟨fr, bs⟩ => bs = [] ∧ fr 0 = toldsD xs ∧ fr 1 = .fn 115 [] [] ∧ fr 7 = .int .i64 xs.length ∧ fr 8 = .int .i64 i ∧ gIdx toldOdd i rest = A)
    (fun ⟨fr, bs⟩ => bs = [] ∧ A = -1) (fun ⟨fr, bs⟩ => fr 4 = .int .i64 A) c_slices_IndexFunc_api_Told_api_Told_L0.eq_1 ?_ ?_ ?_ ?_ ?_
  · exact ⟨rfl, rfl, rfl, rfl, rfl, hA⟩
  · rintro i ⟨fr, bs⟩ hi ⟨rfl, h0, h1, h7, h8, he⟩
    simp -implicitDefEqProofs [h0, h1, h7, h8, hi]
    simpa [gIdx] using he.symm
  · rintro i a rest ⟨fr, bs⟩ hlt hget hg hd hd2 ⟨rfl, h0, h1, h7, h8, he⟩
    have hlt' : (i : Int) < xs.length := by omega
    have hw := wrap_next (n := i) (by omega)
    have c1 := node_odd a
    simp [Told.row] at c1
    simp only [gIdx] at he
    simp -implicitDefEqProofs [h0, h1, h7, h8, hlt, hlt', hget, hg, toldsD, Told.row]
    repeat' (first | (refine callThen_of (by first | exact c1) ?_; simp -implicitDefEqProofs [*, toldsD, Told.row, hw]) | (with_reducible refine gOps_dec (fun _ => ?_) (fun _ => ?_) <;> simp -implicitDefEqProofs [*, toldsD, Told.row, hw]) | (with_reducible refine gOps_ndec (fun _ => ?_) (fun _ => ?_) <;> simp -implicitDefEqProofs [*, toldsD, Told.row, hw]) | (with_reducible refine gOps_and (fun hq => ?_) (fun hq => ?_) <;> (try simp at hq) <;> simp -implicitDefEqProofs [*, toldsD, Told.row, hw]) | (with_reducible refine gOps_or (fun hq => ?_) (fun hq => ?_) <;> (try simp at hq) <;> simp -implicitDefEqProofs [*, toldsD, Told.row, hw]) | (with_reducible refine gOps_not (fun hq => ?_) (fun hq => ?_) <;> (try simp at hq) <;> simp -implicitDefEqProofs [*, toldsD, Told.row, hw]) | (with_reducible refine gOps_split (fun hq => ?_) (fun hq => ?_) <;> (try simp at hq) <;> simp -implicitDefEqProofs [*, toldsD, Told.row, hw]) | (with_reducible refine condC_dec (fun _ => ?_) (fun _ => ?_) <;> simp -implicitDefEqProofs [*, toldsD, Told.row, hw]) | (with_reducible refine condC_ndec (fun _ => ?_) (fun _ => ?_) <;> simp -implicitDefEqProofs [*, toldsD, Told.row, hw]) | (with_reducible refine condC_and (fun hq => ?_) (fun hq => ?_) <;> (try simp at hq) <;> simp -implicitDefEqProofs [*, toldsD, Told.row, hw]) | (with_reducible refine condC_or (fun hq => ?_) (fun hq => ?_) <;> (try simp at hq) <;> simp -implicitDefEqProofs [*, toldsD, Told.row, hw]) | (with_reducible refine condC_not (fun hq => ?_) (fun hq => ?_) <;> (try simp at hq) <;> simp -implicitDefEqProofs [*, toldsD, Told.row, hw]) | (with_reducible refine condC_split (fun hq => ?_) (fun hq => ?_) <;> (try simp at hq) <;> simp -implicitDefEqProofs [*, toldsD, Told.row, hw]) | (refine appK2_if (by omega) ?_; simp -implicitDefEqProofs [*, toldsD, Told.row, hw]) | (refine pureV_if (by omega) ?_; simp -implicitDefEqProofs [*, toldsD, Told.row, hw]))
    all_goals grind
  · rintro ⟨fr, bs⟩ ⟨rfl, h1⟩
    simp -implicitDefEqProofs [h1]
  · rintro ⟨fr, bs⟩ h
    simp -implicitDefEqProofs [h]
theorem slices_ContainsFunc_Told (xs : List Told) (hl : xs.length ≤ cap) : Den PP 114 [toldsD xs, .fn 115 [] []] [] (.bool (xs.any toldOdd)) [] := by
  have c1 := slices_IndexFunc_Told xs hl
  have h1 := gIdx_any toldOdd xs 0
  obtain ⟨A, hA⟩ : ∃ A, xs.any toldOdd = A := ⟨_, rfl⟩
  rw [hA] at h1
  simp [toldsD] at c1
  refine den_of [] [] is_slices_ContainsFunc_api_Told_api_Told ?_
  simp -implicitDefEqProofs [c_slices_ContainsFunc_api_Told_api_Told, toldsD]
  refine callThen_of c1 ?_
  simp -implicitDefEqProofs [h1, hA]
theorem node_May (x : Node) (hs : x.small) : Den PP 102 [nodeD x] [] (.bool (nodeMay x)) [] := by
  obtain ⟨h1, h2, h3⟩ := hs
  have c1 := view_May x.view h1
  have c2 := store_May x.items (by unfold cap16; omega)
  have c3 := slices_ContainsFunc_Told x.log (by unfold cap; omega)
  obtain ⟨A, hA⟩ : ∃ A, x.log.any toldOdd = A := ⟨_, rfl⟩
  rw [hA] at c3
  simp [viewD, View.cells, peersD, intsD, itemsD, toldsD] at c1 c2 c3
  obtain ⟨hp, hq⟩ := h1
  unfold cap16 at hp
  unfold cap at hq
  have w1 : IntKind.wrap .i64 ((x.view.peers.length : Int) + x.view.passive.length) = x.view.peers.length + x.view.passive.length := wrap_in (by omega) (by omega)
  have w2 : IntKind.wrap .i64 ((x.view.peers.length : Int) + x.view.passive.length + x.items.length) = x.view.peers.length + x.view.passive.length + x.items.length := wrap_in (by omega) (by omega)
  have w3 : IntKind.wrap .i64 ((x.view.peers.length : Int) + x.view.passive.length + x.items.length + x.log.length) = x.view.peers.length + x.view.passive.length + x.items.length + x.log.length := wrap_in (by omega) (by omega)
  refine den_of [] [] is_node_May ?_
  simp -implicitDefEqProofs [c_node_May, nodeD, Node.cells, peersD, intsD, itemsD, toldsD]
  repeat' (first | (refine callThen_of (by first | exact c1 | exact c2 | exact c3) ?_; simp -implicitDefEqProofs [*, w1, w2, w3]) | (with_reducible refine gOps_dec (fun _ => ?_) (fun _ => ?_) <;> simp -implicitDefEqProofs [*, w1, w2, w3]) | (with_reducible refine gOps_ndec (fun _ => ?_) (fun _ => ?_) <;> simp -implicitDefEqProofs [*, w1, w2, w3]) | (with_reducible refine gOps_and (fun hq => ?_) (fun hq => ?_) <;> (try simp at hq) <;> simp -implicitDefEqProofs [*, w1, w2, w3]) | (with_reducible refine gOps_or (fun hq => ?_) (fun hq => ?_) <;> (try simp at hq) <;> simp -implicitDefEqProofs [*, w1, w2, w3]) | (with_reducible refine gOps_not (fun hq => ?_) (fun hq => ?_) <;> (try simp at hq) <;> simp -implicitDefEqProofs [*, w1, w2, w3]) | (with_reducible refine gOps_split (fun hq => ?_) (fun hq => ?_) <;> (try simp at hq) <;> simp -implicitDefEqProofs [*, w1, w2, w3]) | (with_reducible refine condC_dec (fun _ => ?_) (fun _ => ?_) <;> simp -implicitDefEqProofs [*, w1, w2, w3]) | (with_reducible refine condC_ndec (fun _ => ?_) (fun _ => ?_) <;> simp -implicitDefEqProofs [*, w1, w2, w3]) | (with_reducible refine condC_and (fun hq => ?_) (fun hq => ?_) <;> (try simp at hq) <;> simp -implicitDefEqProofs [*, w1, w2, w3]) | (with_reducible refine condC_or (fun hq => ?_) (fun hq => ?_) <;> (try simp at hq) <;> simp -implicitDefEqProofs [*, w1, w2, w3]) | (with_reducible refine condC_not (fun hq => ?_) (fun hq => ?_) <;> (try simp at hq) <;> simp -implicitDefEqProofs [*, w1, w2, w3]) | (with_reducible refine condC_split (fun hq => ?_) (fun hq => ?_) <;> (try simp at hq) <;> simp -implicitDefEqProofs [*, w1, w2, w3]) | (refine appK2_if (by omega) ?_; simp -implicitDefEqProofs [*, w1, w2, w3]) | (refine pureV_if (by omega) ?_; simp -implicitDefEqProofs [*, w1, w2, w3]))
  all_goals simp only [nodeMay, emptyN, hA]
  all_goals grind
theorem node_Up (x : Node) (hs : x.small) : Den PP 84 [nodeD x] [] (.bool (nodeUp x)) [] := by
  have c1 := node_May x hs
  simp only [nodeD, Node.cells, peersD, intsD, itemsD, toldsD] at c1
  refine den_of [] [] is_node_Up ?_
  cases hu : x.up
  all_goals
    rw [hu] at c1
    simp -implicitDefEqProofs [c_node_Up, nodeD, Node.cells, peersD, intsD, itemsD, toldsD, hu]
    repeat' (first | (refine callThen_of (by first | exact c1) ?_; simp -implicitDefEqProofs [*]) | (with_reducible refine gOps_dec (fun _ => ?_) (fun _ => ?_) <;> simp -implicitDefEqProofs [*]) | (with_reducible refine gOps_ndec (fun _ => ?_) (fun _ => ?_) <;> simp -implicitDefEqProofs [*]) | (with_reducible refine gOps_and (fun hq => ?_) (fun hq => ?_) <;> (try simp at hq) <;> simp -implicitDefEqProofs [*]) | (with_reducible refine gOps_or (fun hq => ?_) (fun hq => ?_) <;> (try simp at hq) <;> simp -implicitDefEqProofs [*]) | (with_reducible refine gOps_not (fun hq => ?_) (fun hq => ?_) <;> (try simp at hq) <;> simp -implicitDefEqProofs [*]) | (with_reducible refine gOps_split (fun hq => ?_) (fun hq => ?_) <;> (try simp at hq) <;> simp -implicitDefEqProofs [*]) | (with_reducible refine condC_dec (fun _ => ?_) (fun _ => ?_) <;> simp -implicitDefEqProofs [*]) | (with_reducible refine condC_ndec (fun _ => ?_) (fun _ => ?_) <;> simp -implicitDefEqProofs [*]) | (with_reducible refine condC_and (fun hq => ?_) (fun hq => ?_) <;> (try simp at hq) <;> simp -implicitDefEqProofs [*]) | (with_reducible refine condC_or (fun hq => ?_) (fun hq => ?_) <;> (try simp at hq) <;> simp -implicitDefEqProofs [*]) | (with_reducible refine condC_not (fun hq => ?_) (fun hq => ?_) <;> (try simp at hq) <;> simp -implicitDefEqProofs [*]) | (with_reducible refine condC_split (fun hq => ?_) (fun hq => ?_) <;> (try simp at hq) <;> simp -implicitDefEqProofs [*]) | (refine appK2_if (by omega) ?_; simp -implicitDefEqProofs [*]) | (refine pureV_if (by omega) ?_; simp -implicitDefEqProofs [*]))
    all_goals simp [nodeUp, hu]
end Go.AM
/- AM: contracts: what the statements' own helpers do with items, messages, nodes. -/
namespace Go.AM
set_option linter.unusedSimpArgs false
set_option linter.unusedVariables false
set_option maxRecDepth 8000
set_option maxHeartbeats 0
end Go.AM
/- AM: contracts: what the statements' helpers do with slices. -/
namespace Go.AM
set_option linter.unusedSimpArgs false
set_option linter.unusedVariables false
set_option maxRecDepth 8000
set_option maxHeartbeats 0
end Go.AM
/- AM: contracts: the document's best, its put; what a node takes. -/
namespace Go.AM
set_option linter.unusedSimpArgs false
set_option linter.unusedVariables false
set_option maxRecDepth 8000
set_option maxHeartbeats 0
def newerR (a b : Item) : Bool × Int := if verMay a.count a.writer && verMay b.count b.writer then (decide (b.count < a.count) || decide (a.count = b.count) && decide (b.writer < a.writer), 0) else (false, 300)
def bestR (a b : Item) : Item × Int := if itemMay a && (itemMay b && decide (a.key = b.key)) then (bestI a b, 0) else (zeroItem, 400)
end Go.AM
/- AM: contracts: the best of two, a store's item, its put. -/
namespace Go.AM
set_option linter.unusedSimpArgs false
set_option linter.unusedVariables false
set_option maxRecDepth 8000
set_option maxHeartbeats 0
theorem version_Newer (a b : Item) : Den PP 123 [.agg [.int .i64 a.count, .int .i64 a.writer], .agg [.int .i64 b.count, .int .i64 b.writer]] [] (.tup [.bool (newerR a b).1, .int .i64 (newerR a b).2]) [] := by
  refine den_of [] [] is_version_Newer ?_
  simp -implicitDefEqProofs [c_version_Newer]
  repeat' (first | (refine callThen_of (by first | exact version_May _ _) ?_; simp -implicitDefEqProofs [*, newerR]) | (with_reducible refine gOps_dec (fun _ => ?_) (fun _ => ?_) <;> simp -implicitDefEqProofs [*, newerR]) | (with_reducible refine gOps_ndec (fun _ => ?_) (fun _ => ?_) <;> simp -implicitDefEqProofs [*, newerR]) | (with_reducible refine gOps_and (fun hq => ?_) (fun hq => ?_) <;> (try simp at hq) <;> simp -implicitDefEqProofs [*, newerR]) | (with_reducible refine gOps_or (fun hq => ?_) (fun hq => ?_) <;> (try simp at hq) <;> simp -implicitDefEqProofs [*, newerR]) | (with_reducible refine gOps_not (fun hq => ?_) (fun hq => ?_) <;> (try simp at hq) <;> simp -implicitDefEqProofs [*, newerR]) | (with_reducible refine gOps_split (fun hq => ?_) (fun hq => ?_) <;> (try simp at hq) <;> simp -implicitDefEqProofs [*, newerR]) | (with_reducible refine condC_dec (fun _ => ?_) (fun _ => ?_) <;> simp -implicitDefEqProofs [*, newerR]) | (with_reducible refine condC_ndec (fun _ => ?_) (fun _ => ?_) <;> simp -implicitDefEqProofs [*, newerR]) | (with_reducible refine condC_and (fun hq => ?_) (fun hq => ?_) <;> (try simp at hq) <;> simp -implicitDefEqProofs [*, newerR]) | (with_reducible refine condC_or (fun hq => ?_) (fun hq => ?_) <;> (try simp at hq) <;> simp -implicitDefEqProofs [*, newerR]) | (with_reducible refine condC_not (fun hq => ?_) (fun hq => ?_) <;> (try simp at hq) <;> simp -implicitDefEqProofs [*, newerR]) | (with_reducible refine condC_split (fun hq => ?_) (fun hq => ?_) <;> (try simp at hq) <;> simp -implicitDefEqProofs [*, newerR]) | (refine appK2_if (by omega) ?_; simp -implicitDefEqProofs [*, newerR]) | (refine pureV_if (by omega) ?_; simp -implicitDefEqProofs [*, newerR]))
theorem item_better (a b : Item) (ha : verMay a.count a.writer = true) (hb : verMay b.count b.writer = true) : Den PP 117 [.mem a.row, .mem b.row] [] (.bool (better a b)) [] := by
  have c1 := version_Newer a b
  simp only [newerR, ha, hb, Bool.and_self, if_true] at c1
  obtain ⟨ak, ac, aw, av, ag⟩ := a
  obtain ⟨bk, bc, bw, bv, bg⟩ := b
  simp only [Item.row, better] at c1 ⊢
  clear ha hb
  refine den_of [] [] is_item_better ?_
  by_cases h1 : ac = bc
  · subst h1
    by_cases h2 : aw = bw
    · subst h2
      clear c1
      cases ag <;> cases bg
      all_goals simp -implicitDefEqProofs [c_item_better, EQS]
    · have h3 : decide (bw < aw) = (decide (bw < aw) || false) := by simp
      simp -implicitDefEqProofs [c_item_better, EQS, h2]
      simp at c1
      refine callThen_of c1 ?_
      simp -implicitDefEqProofs [EQS, h2]
  · simp -implicitDefEqProofs [c_item_better, EQS, h1]
    simp [h1] at c1
    refine callThen_of c1 ?_
    simp -implicitDefEqProofs [EQS, h1]
theorem item_Best (a b : Item) : Den PP 109 [.agg a.row, .agg b.row] [] (.tup [.agg (bestR a b).1.row, .int .i64 (bestR a b).2]) [] := by
  have c1 := item_May a
  have c2 := item_May b
  have c3 := fun h1 h2 => item_better a b h1 h2
  have hv : itemMay a = true → verMay a.count a.writer = true := by
    intro h; simp only [itemMay, Bool.and_eq_true] at h; exact h.1.2
  have hw : itemMay b = true → verMay b.count b.writer = true := by
    intro h; simp only [itemMay, Bool.and_eq_true] at h; exact h.1.2
  have hbr : bestR a b = if itemMay a && (itemMay b && decide (a.key = b.key)) then (bestI a b, 0) else (zeroItem, 400) := rfl
  obtain ⟨A, hA⟩ : ∃ A, itemMay a = A := ⟨_, rfl⟩
  obtain ⟨B, hB⟩ : ∃ B, itemMay b = B := ⟨_, rfl⟩
  rw [hA] at c1 hv hbr
  rw [hB] at c2 hw hbr
  obtain ⟨r, hr⟩ : ∃ r, bestR a b = r := ⟨_, rfl⟩
  rw [hr] at hbr ⊢
  unfold bestI at hbr
  obtain ⟨q, hq⟩ : ∃ q, better a b = q := ⟨_, rfl⟩
  rw [hq] at c3 hbr
  obtain ⟨ak, ac, aw, av, ag⟩ := a
  obtain ⟨bk, bc, bw, bv, bg⟩ := b
  simp only [Item.row] at c1 c2 c3 hv hw hbr ⊢
  clear hA hB hr hq
  refine den_of [] [] is_item_Best ?_
  cases A <;> cases B
  case true.true =>
    have c3' := c3 (hv rfl) (hw rfl)
    clear c3 hv hw
    by_cases hk : ak = bk
    · subst hk
      cases q
      all_goals
        simp at hbr
        subst hbr
        simp -implicitDefEqProofs [c_item_Best]
        repeat' (first | (refine callThen_of (by first | exact c1 | exact c2 | exact c3') ?_; simp -implicitDefEqProofs [*]) | (with_reducible refine gOps_dec (fun _ => ?_) (fun _ => ?_) <;> simp -implicitDefEqProofs [*]) | (with_reducible refine gOps_ndec (fun _ => ?_) (fun _ => ?_) <;> simp -implicitDefEqProofs [*]) | (with_reducible refine gOps_and (fun hq => ?_) (fun hq => ?_) <;> (try simp at hq) <;> simp -implicitDefEqProofs [*]) | (with_reducible refine gOps_or (fun hq => ?_) (fun hq => ?_) <;> (try simp at hq) <;> simp -implicitDefEqProofs [*]) | (with_reducible refine gOps_not (fun hq => ?_) (fun hq => ?_) <;> (try simp at hq) <;> simp -implicitDefEqProofs [*]) | (with_reducible refine gOps_split (fun hq => ?_) (fun hq => ?_) <;> (try simp at hq) <;> simp -implicitDefEqProofs [*]) | (with_reducible refine condC_dec (fun _ => ?_) (fun _ => ?_) <;> simp -implicitDefEqProofs [*]) | (with_reducible refine condC_ndec (fun _ => ?_) (fun _ => ?_) <;> simp -implicitDefEqProofs [*]) | (with_reducible refine condC_and (fun hq => ?_) (fun hq => ?_) <;> (try simp at hq) <;> simp -implicitDefEqProofs [*]) | (with_reducible refine condC_or (fun hq => ?_) (fun hq => ?_) <;> (try simp at hq) <;> simp -implicitDefEqProofs [*]) | (with_reducible refine condC_not (fun hq => ?_) (fun hq => ?_) <;> (try simp at hq) <;> simp -implicitDefEqProofs [*]) | (with_reducible refine condC_split (fun hq => ?_) (fun hq => ?_) <;> (try simp at hq) <;> simp -implicitDefEqProofs [*]) | (refine appK2_if (by omega) ?_; simp -implicitDefEqProofs [*]) | (refine pureV_if (by omega) ?_; simp -implicitDefEqProofs [*]))
    · simp [hk] at hbr
      subst hbr
      simp -implicitDefEqProofs [c_item_Best, zeroItem]
      repeat' (first | (refine callThen_of (by first | exact c1 | exact c2) ?_; simp -implicitDefEqProofs [*, hk]) | (with_reducible refine gOps_dec (fun _ => ?_) (fun _ => ?_) <;> simp -implicitDefEqProofs [*, hk]) | (with_reducible refine gOps_ndec (fun _ => ?_) (fun _ => ?_) <;> simp -implicitDefEqProofs [*, hk]) | (with_reducible refine gOps_and (fun hq => ?_) (fun hq => ?_) <;> (try simp at hq) <;> simp -implicitDefEqProofs [*, hk]) | (with_reducible refine gOps_or (fun hq => ?_) (fun hq => ?_) <;> (try simp at hq) <;> simp -implicitDefEqProofs [*, hk]) | (with_reducible refine gOps_not (fun hq => ?_) (fun hq => ?_) <;> (try simp at hq) <;> simp -implicitDefEqProofs [*, hk]) | (with_reducible refine gOps_split (fun hq => ?_) (fun hq => ?_) <;> (try simp at hq) <;> simp -implicitDefEqProofs [*, hk]) | (with_reducible refine condC_dec (fun _ => ?_) (fun _ => ?_) <;> simp -implicitDefEqProofs [*, hk]) | (with_reducible refine condC_ndec (fun _ => ?_) (fun _ => ?_) <;> simp -implicitDefEqProofs [*, hk]) | (with_reducible refine condC_and (fun hq => ?_) (fun hq => ?_) <;> (try simp at hq) <;> simp -implicitDefEqProofs [*, hk]) | (with_reducible refine condC_or (fun hq => ?_) (fun hq => ?_) <;> (try simp at hq) <;> simp -implicitDefEqProofs [*, hk]) | (with_reducible refine condC_not (fun hq => ?_) (fun hq => ?_) <;> (try simp at hq) <;> simp -implicitDefEqProofs [*, hk]) | (with_reducible refine condC_split (fun hq => ?_) (fun hq => ?_) <;> (try simp at hq) <;> simp -implicitDefEqProofs [*, hk]) | (refine appK2_if (by omega) ?_; simp -implicitDefEqProofs [*, hk]) | (refine pureV_if (by omega) ?_; simp -implicitDefEqProofs [*, hk]))
  all_goals
    clear c3 hv hw
    simp at hbr
    subst hbr
    simp -implicitDefEqProofs [c_item_Best, zeroItem]
    repeat' (first | (refine callThen_of (by first | exact c1 | exact c2) ?_; simp -implicitDefEqProofs [*]) | (with_reducible refine gOps_dec (fun _ => ?_) (fun _ => ?_) <;> simp -implicitDefEqProofs [*]) | (with_reducible refine gOps_ndec (fun _ => ?_) (fun _ => ?_) <;> simp -implicitDefEqProofs [*]) | (with_reducible refine gOps_and (fun hq => ?_) (fun hq => ?_) <;> (try simp at hq) <;> simp -implicitDefEqProofs [*]) | (with_reducible refine gOps_or (fun hq => ?_) (fun hq => ?_) <;> (try simp at hq) <;> simp -implicitDefEqProofs [*]) | (with_reducible refine gOps_not (fun hq => ?_) (fun hq => ?_) <;> (try simp at hq) <;> simp -implicitDefEqProofs [*]) | (with_reducible refine gOps_split (fun hq => ?_) (fun hq => ?_) <;> (try simp at hq) <;> simp -implicitDefEqProofs [*]) | (with_reducible refine condC_dec (fun _ => ?_) (fun _ => ?_) <;> simp -implicitDefEqProofs [*]) | (with_reducible refine condC_ndec (fun _ => ?_) (fun _ => ?_) <;> simp -implicitDefEqProofs [*]) | (with_reducible refine condC_and (fun hq => ?_) (fun hq => ?_) <;> (try simp at hq) <;> simp -implicitDefEqProofs [*]) | (with_reducible refine condC_or (fun hq => ?_) (fun hq => ?_) <;> (try simp at hq) <;> simp -implicitDefEqProofs [*]) | (with_reducible refine condC_not (fun hq => ?_) (fun hq => ?_) <;> (try simp at hq) <;> simp -implicitDefEqProofs [*]) | (with_reducible refine condC_split (fun hq => ?_) (fun hq => ?_) <;> (try simp at hq) <;> simp -implicitDefEqProofs [*]) | (refine appK2_if (by omega) ?_; simp -implicitDefEqProofs [*]) | (refine pureV_if (by omega) ?_; simp -implicitDefEqProofs [*]))
theorem store_byKey (x : Item) (k : Int) : Den PP 105 [.agg x.row, .int .i64 k] [] (.int .i64 (keyC k x)) [] := by
  refine den_of [] [] is_store_byKey ?_
  simp -implicitDefEqProofs [c_store_byKey, Item.row, keyC]
  repeat' (first | (refine callThen_of (by first | exact cmp_Compare _ _) ?_; simp -implicitDefEqProofs [*]) | (with_reducible refine gOps_dec (fun _ => ?_) (fun _ => ?_) <;> simp -implicitDefEqProofs [*]) | (with_reducible refine gOps_ndec (fun _ => ?_) (fun _ => ?_) <;> simp -implicitDefEqProofs [*]) | (with_reducible refine gOps_and (fun hq => ?_) (fun hq => ?_) <;> (try simp at hq) <;> simp -implicitDefEqProofs [*]) | (with_reducible refine gOps_or (fun hq => ?_) (fun hq => ?_) <;> (try simp at hq) <;> simp -implicitDefEqProofs [*]) | (with_reducible refine gOps_not (fun hq => ?_) (fun hq => ?_) <;> (try simp at hq) <;> simp -implicitDefEqProofs [*]) | (with_reducible refine gOps_split (fun hq => ?_) (fun hq => ?_) <;> (try simp at hq) <;> simp -implicitDefEqProofs [*]) | (with_reducible refine condC_dec (fun _ => ?_) (fun _ => ?_) <;> simp -implicitDefEqProofs [*]) | (with_reducible refine condC_ndec (fun _ => ?_) (fun _ => ?_) <;> simp -implicitDefEqProofs [*]) | (with_reducible refine condC_and (fun hq => ?_) (fun hq => ?_) <;> (try simp at hq) <;> simp -implicitDefEqProofs [*]) | (with_reducible refine condC_or (fun hq => ?_) (fun hq => ?_) <;> (try simp at hq) <;> simp -implicitDefEqProofs [*]) | (with_reducible refine condC_not (fun hq => ?_) (fun hq => ?_) <;> (try simp at hq) <;> simp -implicitDefEqProofs [*]) | (with_reducible refine condC_split (fun hq => ?_) (fun hq => ?_) <;> (try simp at hq) <;> simp -implicitDefEqProofs [*]) | (refine appK2_if (by omega) ?_; simp -implicitDefEqProofs [*]) | (refine pureV_if (by omega) ?_; simp -implicitDefEqProofs [*]))
theorem store_Get (is : List Item) (k : Int) (hl : is.length ≤ cap16) : Den PP 86 [itemsD is, .int .i64 k] [] (.tup [.agg (getR is k).1.row, .bool (getR is k).2]) [] := by
  have c1 := store_May is hl
  have c2 := fun h => bsearch_Item is 105 k (keyC k) (fun x _ => store_byKey x k) (by unfold cap; unfold cap16 at hl; omega) h
  simp only [itemsD] at c1
  refine den_of [] [] is_store_Get ?_
  simp -implicitDefEqProofs [c_store_Get, itemsD]
  refine callThen_of c1 ?_
  simp -implicitDefEqProofs
  refine condC_not (fun h1 => ?_) (fun h1 => ?_)
  rotate_left
  · simp -implicitDefEqProofs [h1, getR, zeroItem, Item.row]
  obtain ⟨hm, hr, h16⟩ := (storeMay_iff is).1 h1
  have hg := getS_at hr k
  have hat := fun h => atC_true (c := keyC k) (xs := is) h
  have c3 := c2 (mono_key hr k)
  clear c2 c1
  generalize atC (keyC k) is = A at *
  generalize posC (keyC k) is = p at *
  simp -implicitDefEqProofs [h1]
  refine callThen_of c3 ?_
  cases A with
  | false =>
    simp -implicitDefEqProofs [h1, hg, getR, zeroItem, Item.row]
  | true =>
    obtain ⟨hlt, x, hx, hx0⟩ := hat rfl
    have hlt' : (p : Int) < is.length := by omega
    simp at hg
    rw [hx] at hg
    have hxr : (is.map Item.row)[p]? = some x.row := by simp [hx]
    have hx2 : is[p] = x := by simpa [hlt] using hx
    simp -implicitDefEqProofs [h1, hg, getR, hlt', hlt, hx2, Item.row]
end Go.AM
/- AM: contracts: a store's put. -/
namespace Go.AM
set_option linter.unusedSimpArgs false
set_option linter.unusedVariables false
set_option maxRecDepth 8000
set_option maxHeartbeats 0
theorem row_still (i : Item) : ∀ d ∈ i.row, d.still = true := by
  intro d hd
  simp [Item.row] at hd
  rcases hd with rfl | rfl | rfl | rfl | rfl <;> rfl
theorem store_Put (is : List Item) (x : Item) (hl : is.length ≤ cap16) : Den PP 88 [itemsD is, .agg x.row] [] (.tup [.ref 0 0 (putR is x).1.length, .int .i64 (putR is x).2]) [⟨(putR is x).1.map Item.row, 5, .mut⟩] := by
  have c1 := store_May is hl
  have c0 := item_May x
  have c2 := fun h : is.length ≤ 16 => clone_Item (is.map Item.row) (by intro r hr; obtain ⟨a, _, rfl⟩ := List.mem_map.1 hr; exact ⟨rfl, rfl⟩) (by simp; omega)
  have c3 := fun h => bsearch_Item is 105 x.key (keyC x.key) (fun y _ => store_byKey y x.key) (by unfold cap; unfold cap16 at hl; omega) h
  obtain ⟨r, hr⟩ : ∃ r, putR is x = r := ⟨_, rfl⟩
  have hr' := hr
  unfold putR at hr'
  rw [hr]
  clear hr
  simp only [itemsD, Item.row, List.length_map] at c0 c1 c2
  refine den_ofG [18, 26] [26] [26] [] (fun _ h => absurd h List.not_mem_nil) is_store_Put ?_
  simp -implicitDefEqProofs [c_store_Put, itemsD, Item.row]
  refine callThen_of c1 ?_
  simp -implicitDefEqProofs
  cases h1 : storeMay is with
  | false =>
    rw [h1] at hr'
    simp at hr'
    subst hr'
    simp -implicitDefEqProofs
  | true =>
  cases h2 : itemMay x with
  | false =>
    rw [h2] at hr' c0
    simp at hr'
    subst hr'
    simp -implicitDefEqProofs
    repeat' (first | (refine callThen_of (by first | exact c0) ?_; simp -implicitDefEqProofs [*]) | (with_reducible refine gOps_dec (fun _ => ?_) (fun _ => ?_) <;> simp -implicitDefEqProofs [*]) | (with_reducible refine gOps_ndec (fun _ => ?_) (fun _ => ?_) <;> simp -implicitDefEqProofs [*]) | (with_reducible refine gOps_and (fun hq => ?_) (fun hq => ?_) <;> (try simp at hq) <;> simp -implicitDefEqProofs [*]) | (with_reducible refine gOps_or (fun hq => ?_) (fun hq => ?_) <;> (try simp at hq) <;> simp -implicitDefEqProofs [*]) | (with_reducible refine gOps_not (fun hq => ?_) (fun hq => ?_) <;> (try simp at hq) <;> simp -implicitDefEqProofs [*]) | (with_reducible refine gOps_split (fun hq => ?_) (fun hq => ?_) <;> (try simp at hq) <;> simp -implicitDefEqProofs [*]) | (with_reducible refine condC_dec (fun _ => ?_) (fun _ => ?_) <;> simp -implicitDefEqProofs [*]) | (with_reducible refine condC_ndec (fun _ => ?_) (fun _ => ?_) <;> simp -implicitDefEqProofs [*]) | (with_reducible refine condC_and (fun hq => ?_) (fun hq => ?_) <;> (try simp at hq) <;> simp -implicitDefEqProofs [*]) | (with_reducible refine condC_or (fun hq => ?_) (fun hq => ?_) <;> (try simp at hq) <;> simp -implicitDefEqProofs [*]) | (with_reducible refine condC_not (fun hq => ?_) (fun hq => ?_) <;> (try simp at hq) <;> simp -implicitDefEqProofs [*]) | (with_reducible refine condC_split (fun hq => ?_) (fun hq => ?_) <;> (try simp at hq) <;> simp -implicitDefEqProofs [*]) | (refine appK2_if (by omega) ?_; simp -implicitDefEqProofs [*]) | (refine pureV_if (by omega) ?_; simp -implicitDefEqProofs [*]))
  | true =>
  obtain ⟨hm, hri, h16⟩ := (storeMay_iff is).1 h1
  rw [h1, h2] at hr'
  rw [h2] at c0
  have hlen := putS_length x is hri
  have hg := getS_at hri x.key
  obtain ⟨hp1, hp2⟩ := putS_at x is
  have hat := fun h => atC_true (c := keyC x.key) (xs := is) h
  have hple := posC_le (keyC x.key) is
  have c4 := c3 (mono_key hri x.key)
  clear c3
  generalize atC (keyC x.key) is = A at *
  generalize posC (keyC x.key) is = p at *
  simp -implicitDefEqProofs
  refine callThen_of c0 ?_
  simp -implicitDefEqProofs
  refine callThen_of (c2 h16) ?_
  simp -implicitDefEqProofs [downTo]
  refine callThen_of c4 ?_
  simp -implicitDefEqProofs [downTo]
  cases A with
  | true =>
    obtain ⟨hlt, y, hy, hy0⟩ := hat rfl
    have hmy := hm y (List.mem_of_getElem? hy)
    have hky : y.key = x.key := by simpa [keyC, cmpI_eq] using hy0
    have c5 := item_Best y x
    have hbr : bestR y x = (bestI y x, 0) := by simp [bestR, hmy, h2, hky]
    have hput := hp1 y hy rfl
    rw [hbr] at c5
    have hr2 : r = (is.set p (bestI y x), 0) := by
      rw [← hr', hput]
      simp [h16]
    subst hr2
    have hlt' : (p : Int) < is.length := by omega
    have hy2 : is[p] = y := by simpa [hlt] using hy
    generalize bestI y x = b at *
    simp only [Item.row] at c5
    clear hr' hput hbr hg hp1 hp2 hat hlen c4 hm hri
    simp -implicitDefEqProofs [hlt, hlt', hy2, Item.row]
    refine callThen_of c5 ?_
    simp -implicitDefEqProofs [hlt, hlt', hy2, Item.row]
  | false =>
    have hput := hp2 rfl
    simp at hg
    rw [hg] at hlen
    simp at hlen
    rw [hput] at hr' hlen
    by_cases h5 : is.length = 16
    · have hr2 : r = ([], 501) := by
        rw [← hr']
        simp [h5]
      subst hr2
      clear hr' hput hg hp1 hp2 hat hlen c4 hm hri
      simp -implicitDefEqProofs [h5]
    · have hr2 : r = (insL is p x, 0) := by
        rw [← hr']
        simp
        omega
      subst hr2
      clear hr' hput hg hp1 hp2 hat hlen c4 hm hri
      have h5' : ¬ (is.length : Int) = 16 := by omega
      simp -implicitDefEqProofs [h5']
      refine giveThen_of rfl (by simp) (by simp) (by simp) (insert_Item (is.map Item.row) x.row p (by simp [Item.row]) (StillR.map _ _ fun a _ => row_still a) (by intro r hr; rw [List.mem_singleton.1 hr]; exact ⟨rfl, rfl⟩) (row_still x) (by simpa using hple) (by simp; omega)) ?_
      rw [← insL_map]
      simp -implicitDefEqProofs [downTo]
end Go.AM
/- AM: contracts: what chapter 9's statements build on. -/
namespace Go.AM
set_option linter.unusedSimpArgs false
set_option linter.unusedVariables false
set_option maxRecDepth 8000
set_option maxHeartbeats 0
end Go.AM
/- AM: contracts: the document's nodes and sharing; chapter 18's helpers. -/
namespace Go.AM
set_option linter.unusedSimpArgs false
set_option linter.unusedVariables false
set_option maxRecDepth 8000
set_option maxHeartbeats 0
theorem ref_NodeMay (x : Node) (hs : x.small) : Den PP 40 [nodeD x] [] (.bool (nodeMay x)) [] := by
  obtain ⟨h1, h2, h3⟩ := hs
  have c1 := ref_ViewMay' x.view h1
  have c2 := ref_StoreMay x.items (by unfold cap16; omega)
  obtain ⟨A, hA⟩ : ∃ A, x.log.any toldOdd = A := ⟨_, rfl⟩
  simp only [viewD, View.cells, peersD, intsD, itemsD, toldsD] at c1 c2
  obtain ⟨hp, hq⟩ := h1
  unfold cap16 at hp
  unfold cap at hq
  have w1 : IntKind.wrap .i64 ((x.view.peers.length : Int) + x.view.passive.length) = x.view.peers.length + x.view.passive.length := wrap_in (by omega) (by omega)
  have w2 : IntKind.wrap .i64 ((x.view.peers.length : Int) + x.view.passive.length + x.items.length) = x.view.peers.length + x.view.passive.length + x.items.length := wrap_in (by omega) (by omega)
  have w3 : IntKind.wrap .i64 ((x.view.peers.length : Int) + x.view.passive.length + x.items.length + x.log.length) = x.view.peers.length + x.view.passive.length + x.items.length + x.log.length := wrap_in (by omega) (by omega)
  refine den_of [] [] is_gimmalref16_NodeMay ?_
  cases hu : x.up with
  | false =>
    have hm : nodeMay x = (emptyN x && place x.view.id) := by
      cases he : emptyN x with
      | false => simp [nodeMay, hu, he]
      | true =>
        simp only [emptyN, decide_eq_true_eq] at he
        have e1 : x.view.peers = [] := List.eq_nil_of_length_eq_zero (by omega)
        have e2 : x.view.passive = [] := List.eq_nil_of_length_eq_zero (by omega)
        have e3 : x.items = [] := List.eq_nil_of_length_eq_zero (by omega)
        have e4 : x.log = [] := List.eq_nil_of_length_eq_zero (by omega)
        simp [nodeMay, emptyN, hu, e1, e2, e3, e4, viewMay, peersMay, peersOk, passiveMay, ups, storeMay, itemsOk]
    simp -implicitDefEqProofs [c_gimmalref16_NodeMay, nodeD, Node.cells, peersD, intsD, itemsD, toldsD, hu]
    repeat' (first | (refine callThen_of (by first | exact ref_PlaceMay _) ?_; simp -implicitDefEqProofs [*, w1, w2, w3]) | (with_reducible refine gOps_dec (fun _ => ?_) (fun _ => ?_) <;> simp -implicitDefEqProofs [*, w1, w2, w3]) | (with_reducible refine gOps_ndec (fun _ => ?_) (fun _ => ?_) <;> simp -implicitDefEqProofs [*, w1, w2, w3]) | (with_reducible refine gOps_and (fun hq => ?_) (fun hq => ?_) <;> (try simp at hq) <;> simp -implicitDefEqProofs [*, w1, w2, w3]) | (with_reducible refine gOps_or (fun hq => ?_) (fun hq => ?_) <;> (try simp at hq) <;> simp -implicitDefEqProofs [*, w1, w2, w3]) | (with_reducible refine gOps_not (fun hq => ?_) (fun hq => ?_) <;> (try simp at hq) <;> simp -implicitDefEqProofs [*, w1, w2, w3]) | (with_reducible refine gOps_split (fun hq => ?_) (fun hq => ?_) <;> (try simp at hq) <;> simp -implicitDefEqProofs [*, w1, w2, w3]) | (with_reducible refine condC_dec (fun _ => ?_) (fun _ => ?_) <;> simp -implicitDefEqProofs [*, w1, w2, w3]) | (with_reducible refine condC_ndec (fun _ => ?_) (fun _ => ?_) <;> simp -implicitDefEqProofs [*, w1, w2, w3]) | (with_reducible refine condC_and (fun hq => ?_) (fun hq => ?_) <;> (try simp at hq) <;> simp -implicitDefEqProofs [*, w1, w2, w3]) | (with_reducible refine condC_or (fun hq => ?_) (fun hq => ?_) <;> (try simp at hq) <;> simp -implicitDefEqProofs [*, w1, w2, w3]) | (with_reducible refine condC_not (fun hq => ?_) (fun hq => ?_) <;> (try simp at hq) <;> simp -implicitDefEqProofs [*, w1, w2, w3]) | (with_reducible refine condC_split (fun hq => ?_) (fun hq => ?_) <;> (try simp at hq) <;> simp -implicitDefEqProofs [*, w1, w2, w3]) | (refine appK2_if (by omega) ?_; simp -implicitDefEqProofs [*, w1, w2, w3]) | (refine pureV_if (by omega) ?_; simp -implicitDefEqProofs [*, w1, w2, w3]))
    all_goals grind [emptyN]
  | true =>
    simp -implicitDefEqProofs [c_gimmalref16_NodeMay, nodeD, Node.cells, peersD, intsD, itemsD, toldsD, hu]
    refine list_rule x.log (fun i rest => fun ⟨fr, bs⟩ => bs = [⟨[x.cells], 6, .box⟩] ∧ fr 1 = .ptr 0 0 0 ∧ fr 3 = .int .i64 i ∧ rest.any toldOdd = A)
      (fun ⟨fr, bs⟩ => bs = [⟨[x.cells], 6, .box⟩] ∧ fr 1 = .ptr 0 0 0 ∧ A = false) (fun ⟨fr, bs⟩ => fr 2 = .bool false ∧ A = true) c_gimmalref16_NodeMay_L0.eq_1 ?_ ?_ ?_ ?_ ?_
    · refine ⟨?_, rfl, rfl, hA⟩
      simp [Node.cells, hu, peersD, intsD, itemsD, toldsD]
    · rintro i ⟨fr, bs⟩ hi ⟨rfl, h1, h3, he⟩
      simp -implicitDefEqProofs [h1, h3, hi, Node.cells, toldsD]
      simpa using he.symm
    · rintro i a rest ⟨fr, bs⟩ hlt hget hg hd hd2 ⟨rfl, h1, h3, he⟩
      have hlt' : (i : Int) < x.log.length := by omega
      have hw := wrap_next (n := i) (by omega)
      have hodd : toldOdd a = (!byte a.key || !byte a.value || (!a.has && !decide (a.value = 0))) := rfl
      simp -implicitDefEqProofs [h1, h3, hlt, hlt', hget, hg, Node.cells, peersD, intsD, itemsD, toldsD, Told.row]
      repeat' (first | (refine callThen_of (by first | exact ref16_byteMay _) ?_; simp -implicitDefEqProofs [*, Node.cells, peersD, intsD, itemsD, toldsD, Told.row, hw]) | (with_reducible refine gOps_dec (fun _ => ?_) (fun _ => ?_) <;> simp -implicitDefEqProofs [*, Node.cells, peersD, intsD, itemsD, toldsD, Told.row, hw]) | (with_reducible refine gOps_ndec (fun _ => ?_) (fun _ => ?_) <;> simp -implicitDefEqProofs [*, Node.cells, peersD, intsD, itemsD, toldsD, Told.row, hw]) | (with_reducible refine gOps_and (fun hq => ?_) (fun hq => ?_) <;> (try simp at hq) <;> simp -implicitDefEqProofs [*, Node.cells, peersD, intsD, itemsD, toldsD, Told.row, hw]) | (with_reducible refine gOps_or (fun hq => ?_) (fun hq => ?_) <;> (try simp at hq) <;> simp -implicitDefEqProofs [*, Node.cells, peersD, intsD, itemsD, toldsD, Told.row, hw]) | (with_reducible refine gOps_not (fun hq => ?_) (fun hq => ?_) <;> (try simp at hq) <;> simp -implicitDefEqProofs [*, Node.cells, peersD, intsD, itemsD, toldsD, Told.row, hw]) | (with_reducible refine gOps_split (fun hq => ?_) (fun hq => ?_) <;> (try simp at hq) <;> simp -implicitDefEqProofs [*, Node.cells, peersD, intsD, itemsD, toldsD, Told.row, hw]) | (with_reducible refine condC_dec (fun _ => ?_) (fun _ => ?_) <;> simp -implicitDefEqProofs [*, Node.cells, peersD, intsD, itemsD, toldsD, Told.row, hw]) | (with_reducible refine condC_ndec (fun _ => ?_) (fun _ => ?_) <;> simp -implicitDefEqProofs [*, Node.cells, peersD, intsD, itemsD, toldsD, Told.row, hw]) | (with_reducible refine condC_and (fun hq => ?_) (fun hq => ?_) <;> (try simp at hq) <;> simp -implicitDefEqProofs [*, Node.cells, peersD, intsD, itemsD, toldsD, Told.row, hw]) | (with_reducible refine condC_or (fun hq => ?_) (fun hq => ?_) <;> (try simp at hq) <;> simp -implicitDefEqProofs [*, Node.cells, peersD, intsD, itemsD, toldsD, Told.row, hw]) | (with_reducible refine condC_not (fun hq => ?_) (fun hq => ?_) <;> (try simp at hq) <;> simp -implicitDefEqProofs [*, Node.cells, peersD, intsD, itemsD, toldsD, Told.row, hw]) | (with_reducible refine condC_split (fun hq => ?_) (fun hq => ?_) <;> (try simp at hq) <;> simp -implicitDefEqProofs [*, Node.cells, peersD, intsD, itemsD, toldsD, Told.row, hw]) | (refine appK2_if (by omega) ?_; simp -implicitDefEqProofs [*, Node.cells, peersD, intsD, itemsD, toldsD, Told.row, hw]) | (refine pureV_if (by omega) ?_; simp -implicitDefEqProofs [*, Node.cells, peersD, intsD, itemsD, toldsD, Told.row, hw]))
      all_goals grind
    · rintro ⟨fr, bs⟩ ⟨rfl, h1, he⟩
      simp -implicitDefEqProofs [h1, he, Node.cells, peersD, intsD, itemsD, toldsD]
      repeat' (first | (refine callThen_of (by first | exact c1 | exact c2) ?_; simp -implicitDefEqProofs [*]) | (with_reducible refine gOps_dec (fun _ => ?_) (fun _ => ?_) <;> simp -implicitDefEqProofs [*]) | (with_reducible refine gOps_ndec (fun _ => ?_) (fun _ => ?_) <;> simp -implicitDefEqProofs [*]) | (with_reducible refine gOps_and (fun hq => ?_) (fun hq => ?_) <;> (try simp at hq) <;> simp -implicitDefEqProofs [*]) | (with_reducible refine gOps_or (fun hq => ?_) (fun hq => ?_) <;> (try simp at hq) <;> simp -implicitDefEqProofs [*]) | (with_reducible refine gOps_not (fun hq => ?_) (fun hq => ?_) <;> (try simp at hq) <;> simp -implicitDefEqProofs [*]) | (with_reducible refine gOps_split (fun hq => ?_) (fun hq => ?_) <;> (try simp at hq) <;> simp -implicitDefEqProofs [*]) | (with_reducible refine condC_dec (fun _ => ?_) (fun _ => ?_) <;> simp -implicitDefEqProofs [*]) | (with_reducible refine condC_ndec (fun _ => ?_) (fun _ => ?_) <;> simp -implicitDefEqProofs [*]) | (with_reducible refine condC_and (fun hq => ?_) (fun hq => ?_) <;> (try simp at hq) <;> simp -implicitDefEqProofs [*]) | (with_reducible refine condC_or (fun hq => ?_) (fun hq => ?_) <;> (try simp at hq) <;> simp -implicitDefEqProofs [*]) | (with_reducible refine condC_not (fun hq => ?_) (fun hq => ?_) <;> (try simp at hq) <;> simp -implicitDefEqProofs [*]) | (with_reducible refine condC_split (fun hq => ?_) (fun hq => ?_) <;> (try simp at hq) <;> simp -implicitDefEqProofs [*]) | (refine appK2_if (by omega) ?_; simp -implicitDefEqProofs [*]) | (refine pureV_if (by omega) ?_; simp -implicitDefEqProofs [*]))
      all_goals simp only [nodeMay, hA, he, hu]
      all_goals grind
    · rintro ⟨fr, bs⟩ h
      simp -implicitDefEqProofs [h.1, h.2, nodeMay, hA]
end Go.AM
/- AM: what is handed in, told. -/
namespace Go.AM
set_option linter.unusedSimpArgs false
set_option linter.unusedVariables false
set_option maxRecDepth 8000
theorem tell_int {n : Nat} {cs : List D} (h : Tell TT (n + 1) 3 cs) : ∃ x, cs = [.int .i64 x] ∧ in64 x := by
  simp [Tell] at h
  obtain ⟨x, rfl, hx⟩ := h
  exact ⟨x, rfl, wf64 hx⟩
theorem tell_bool {n : Nat} {cs : List D} (h : Tell TT (n + 1) 4 cs) : ∃ x, cs = [.bool x] := by
  simpa [Tell] using h
theorem tell_ints {n : Nat} {cs : List D} (h : Tell TT (n + 2) 23 cs) : ∃ xs : List Int, cs = [intsD xs] ∧ xs.length * 8 ≤ 140737488351232 ∧ ∀ x ∈ xs, in64 x := by
  unfold Tell at h
  simp at h
  obtain ⟨rows, rfl, hl, hr⟩ := h
  obtain ⟨xs, rfl, hx⟩ := rows_of (f := irow) (Q := in64) rows fun r h => by
    obtain ⟨x, rfl, hx⟩ := tell_int (hr r h)
    exact ⟨x, rfl, hx⟩
  exact ⟨xs, by simp [intsD], by simpa using hl, hx⟩
theorem tell_Peer {n : Nat} {cs : List D} (h : Tell TT (n + 2) 42 cs) : ∃ p : Peer, cs = p.row ∧ in64 p.id ∧ in64 p.missed := by
  unfold Tell at h
  simp [Tell.TellFs] at h
  obtain ⟨a, b, rfl, h1, h2⟩ := h
  obtain ⟨x, rfl, hx⟩ := tell_int h1
  obtain ⟨y, rfl, hy⟩ := tell_int h2
  exact ⟨⟨x, y⟩, rfl, hx, hy⟩
theorem tell_peers {n : Nat} {cs : List D} (h : Tell TT (n + 3) 22 cs) : ∃ ps : List Peer, cs = [peersD ps] ∧ ps.length * 16 ≤ 140737488351232 ∧ ∀ p ∈ ps, in64 p.id ∧ in64 p.missed := by
  unfold Tell at h
  simp at h
  obtain ⟨rows, rfl, hl, hr⟩ := h
  obtain ⟨xs, rfl, hx⟩ := rows_of (f := Peer.row) (Q := fun p => in64 p.id ∧ in64 p.missed) rows fun r h => tell_Peer (hr r h)
  exact ⟨xs, by simp [peersD], by simpa using hl, hx⟩
def View.tame (v : View) : Prop := v.peers.length * 16 ≤ 140737488351232 ∧ v.passive.length * 8 ≤ 140737488351232 ∧ in64 v.id ∧ (∀ p ∈ v.peers, in64 p.id ∧ in64 p.missed) ∧ ∀ x ∈ v.passive, in64 x
theorem View.tame.small {v : View} (h : v.tame) : v.small := by
  obtain ⟨h1, h2, _⟩ := h
  unfold View.small cap16 cap
  omega
theorem tell_View {n : Nat} {cs : List D} (h : Tell TT (n + 4) 25 cs) : ∃ v : View, cs = v.cells ∧ v.tame := by
  unfold Tell at h
  simp [Tell.TellFs] at h
  obtain ⟨a, r, rfl, h1, b, c, rfl, h2, h3⟩ := h
  obtain ⟨x, rfl, hx⟩ := tell_int h1
  obtain ⟨ps, rfl, hp, hp2⟩ := tell_peers h2
  obtain ⟨xs, rfl, hq, hq2⟩ := tell_ints h3
  exact ⟨⟨x, ps, xs⟩, rfl, hp, hq, hx, hp2, hq2⟩
theorem tell_Version {n : Nat} {cs : List D} (h : Tell TT (n + 2) 65 cs) : ∃ c w : Int, cs = [.int .i64 c, .int .i64 w] ∧ in64 c ∧ in64 w := by
  unfold Tell at h
  simp [Tell.TellFs] at h
  obtain ⟨a, b, rfl, h1, h2⟩ := h
  obtain ⟨x, rfl, hx⟩ := tell_int h1
  obtain ⟨y, rfl, hy⟩ := tell_int h2
  exact ⟨x, y, rfl, hx, hy⟩
def Item.tame (i : Item) : Prop := in64 i.key ∧ in64 i.count ∧ in64 i.writer ∧ in64 i.value
theorem tell_Item {n : Nat} {cs : List D} (h : Tell TT (n + 3) 67 cs) : ∃ i : Item, cs = i.row ∧ i.tame := by
  unfold Tell at h
  simp [Tell.TellFs] at h
  obtain ⟨a, r1, rfl, h1, b, r2, rfl, h2, c, d, rfl, h3, h4⟩ := h
  obtain ⟨x, rfl, hx⟩ := tell_int h1
  obtain ⟨y, z, rfl, hy, hz⟩ := tell_Version h2
  obtain ⟨u, rfl, hu⟩ := tell_int h3
  obtain ⟨g, rfl⟩ := tell_bool h4
  exact ⟨⟨x, y, z, u, g⟩, rfl, hx, hy, hz, hu⟩
theorem tell_items {n : Nat} {cs : List D} (h : Tell TT (n + 4) 49 cs) : ∃ is : List Item, cs = [itemsD is] ∧ is.length * 40 ≤ 140737488351232 ∧ ∀ i ∈ is, i.tame := by
  unfold Tell at h
  simp at h
  obtain ⟨rows, rfl, hl, hr⟩ := h
  obtain ⟨xs, rfl, hx⟩ := rows_of (f := Item.row) (Q := Item.tame) rows fun r h => tell_Item (hr r h)
  exact ⟨xs, by simp [itemsD], by simpa using hl, hx⟩
theorem tell_Told {n : Nat} {cs : List D} (h : Tell TT (n + 2) 92 cs) : ∃ t : Told, cs = t.row ∧ in64 t.key ∧ in64 t.value := by
  unfold Tell at h
  simp [Tell.TellFs] at h
  obtain ⟨a, r1, rfl, h1, b, c, rfl, h2, h3⟩ := h
  obtain ⟨x, rfl, hx⟩ := tell_int h1
  obtain ⟨g, rfl⟩ := tell_bool h2
  obtain ⟨u, rfl, hu⟩ := tell_int h3
  exact ⟨⟨x, g, u⟩, rfl, hx, hu⟩
theorem tell_tolds {n : Nat} {cs : List D} (h : Tell TT (n + 3) 50 cs) : ∃ ts : List Told, cs = [toldsD ts] ∧ ts.length * 24 ≤ 140737488351232 ∧ ∀ t ∈ ts, in64 t.key ∧ in64 t.value := by
  unfold Tell at h
  simp at h
  obtain ⟨rows, rfl, hl, hr⟩ := h
  obtain ⟨xs, rfl, hx⟩ := rows_of (f := Told.row) (Q := fun t => in64 t.key ∧ in64 t.value) rows fun r h => tell_Told (hr r h)
  exact ⟨xs, by simp [toldsD], by simpa using hl, hx⟩
def Node.tame (x : Node) : Prop := x.view.tame ∧ x.items.length * 40 ≤ 140737488351232 ∧ (∀ i ∈ x.items, i.tame) ∧ x.log.length * 24 ≤ 140737488351232 ∧ ∀ t ∈ x.log, in64 t.key ∧ in64 t.value
theorem Node.tame.small {x : Node} (h : x.tame) : x.small := ⟨h.1.small, h.2.1, h.2.2.2.1⟩
theorem tell_Node {n : Nat} {cs : List D} (h : Tell TT (n + 5) 52 cs) : ∃ x : Node, cs = x.cells ∧ x.tame := by
  unfold Tell at h
  simp [Tell.TellFs] at h
  obtain ⟨a, r1, rfl, h1, b, r2, rfl, h2, c, d, rfl, h3, h4⟩ := h
  obtain ⟨u, rfl⟩ := tell_bool h1
  obtain ⟨v, rfl, hv⟩ := tell_View h2
  obtain ⟨is, rfl, h5, h6⟩ := tell_items h3
  obtain ⟨ts, rfl, h7, h8⟩ := tell_tolds h4
  exact ⟨⟨u, v, is, ts⟩, rfl, hv, h5, h6, h7, h8⟩
theorem arg_Node {n : Nat} {d : D} (h : TellArg TT (n + 5) 52 d) : ∃ x : Node, d = nodeD x ∧ x.tame := by
  simp [TellArg] at h
  obtain ⟨cs, rfl, h⟩ := h
  obtain ⟨v, rfl, hv⟩ := tell_Node h
  exact ⟨v, rfl, hv⟩
theorem arg_Item {n : Nat} {d : D} (h : TellArg TT (n + 3) 67 d) : ∃ x : Item, d = .agg x.row ∧ x.tame := by
  simp [TellArg] at h
  obtain ⟨cs, rfl, h⟩ := h
  obtain ⟨v, rfl, hv⟩ := tell_Item h
  exact ⟨v, rfl, hv⟩
theorem arg_items {n : Nat} {d : D} (h : TellArg TT (n + 4) 49 d) : ∃ x : List Item, d = itemsD x ∧ x.length * 40 ≤ 140737488351232 ∧ ∀ i ∈ x, i.tame := by
  simp [TellArg] at h
  obtain ⟨xs, hx, h2⟩ := tell_items h
  simp at hx
  exact ⟨xs, hx, h2⟩
theorem arg_ints {n : Nat} {d : D} (h : TellArg TT (n + 2) 23 d) : ∃ x : List Int, d = intsD x ∧ x.length * 8 ≤ 140737488351232 ∧ ∀ i ∈ x, in64 i := by
  simp [TellArg] at h
  obtain ⟨xs, hx, h2⟩ := tell_ints h
  simp at hx
  exact ⟨xs, hx, h2⟩
theorem arg_peers {n : Nat} {d : D} (h : TellArg TT (n + 3) 22 d) : ∃ x : List Peer, d = peersD x ∧ x.length * 16 ≤ 140737488351232 ∧ ∀ p ∈ x, in64 p.id ∧ in64 p.missed := by
  simp [TellArg] at h
  obtain ⟨xs, hx, h2⟩ := tell_peers h
  simp at hx
  exact ⟨xs, hx, h2⟩
theorem arg_bool {n : Nat} {d : D} (h : TellArg TT (n + 1) 4 d) : ∃ x, d = .bool x ∧ True := by
  simp [TellArg] at h
  obtain ⟨x, hx⟩ := tell_bool h
  simp at hx
  exact ⟨x, hx, trivial⟩
theorem arg_int {n : Nat} {d : D} (h : TellArg TT (n + 1) 3 d) : ∃ x, d = .int .i64 x ∧ in64 x := by
  simp [TellArg] at h
  obtain ⟨x, hx, h2⟩ := tell_int h
  simp at hx
  exact ⟨x, hx, h2⟩
theorem arg_View {n : Nat} {d : D} (h : TellArg TT (n + 4) 25 d) : ∃ v : View, d = viewD v ∧ v.tame := by
  simp [TellArg] at h
  obtain ⟨cs, rfl, h⟩ := h
  obtain ⟨v, rfl, hv⟩ := tell_View h
  exact ⟨v, rfl, hv⟩
end Go.AM
/- Plain law: stores: put twice, in another row. -/
namespace Go.AM
set_option linter.unusedSimpArgs false
set_option linter.unusedVariables false

end Go.AM
namespace Go.AM
end Go.AM
/- AM: contracts: a node is copied, takes an item. -/
namespace Go.AM
set_option linter.unusedSimpArgs false
set_option linter.unusedVariables false
set_option maxRecDepth 8000
set_option maxHeartbeats 0
theorem fit_of {α : Type} {f : α → List D} {n : Nat} (h : ∀ a, (f a).length = n ∧ (f a).all D.isCell = true) (xs : List α) : Fits n (xs.map f) := by
  intro r hr
  obtain ⟨a, _, rfl⟩ := List.mem_map.1 hr
  exact h a
theorem view_Copy (v : View) (hs : v.small) : Den PP 48 [viewD v] [] (.agg [.int .i64 v.id, .ref 0 0 v.peers.length, .ref 1 0 v.passive.length]) [⟨v.peers.map Peer.row, 2, .mut⟩, ⟨v.passive.map irow, 1, .mut⟩] := by
  obtain ⟨h1, h2⟩ := hs
  unfold cap16 at h1
  unfold cap at h2
  have c1 := clone_Peer (v.peers.map Peer.row) (fit_of (f := Peer.row) (n := 2) (fun _ => ⟨rfl, rfl⟩) _) (by simp; omega)
  have c2 := clone_int (v.passive.map irow) (fit_of (f := irow) (n := 1) (fun _ => ⟨rfl, rfl⟩) _) (by simp; omega)
  simp only [List.length_map] at c1 c2
  refine den_of [5, 8] [] is_view_Copy ?_
  simp -implicitDefEqProofs [c_view_Copy, viewD, View.cells, peersD, intsD]
  refine callThen_of c1 ?_
  simp -implicitDefEqProofs [downTo]
  refine callThen_of c2 ?_
  simp -implicitDefEqProofs [downTo]
def copyD (x : Node) : D := .agg [.bool x.up, .int .i64 x.view.id, .ref 0 0 x.view.peers.length, .ref 1 0 x.view.passive.length, .ref 2 0 x.items.length, .ref 3 0 x.log.length]
def nodeB (x : Node) : List Blk := [⟨x.view.peers.map Peer.row, 2, .mut⟩, ⟨x.view.passive.map irow, 1, .mut⟩, ⟨x.items.map Item.row, 5, .mut⟩, ⟨x.log.map Told.row, 3, .mut⟩]
theorem node_Copy (x : Node) (hs : x.small) : Den PP 87 [nodeD x] [] (copyD x) (nodeB x) := by
  have c1 := view_Copy x.view hs.1
  obtain ⟨⟨h1, h2⟩, h3, h4⟩ := hs
  unfold cap16 at h1
  unfold cap at h2
  have c2 := clone_Item (x.items.map Item.row) (fit_of (f := Item.row) (n := 5) (fun _ => ⟨rfl, rfl⟩) _) (by simp; omega)
  have c3 := clone_Told (x.log.map Told.row) (fit_of (f := Told.row) (n := 3) (fun _ => ⟨rfl, rfl⟩) _) (by simp; omega)
  simp only [List.length_map, viewD, View.cells, peersD, intsD] at c1 c2 c3
  unfold copyD nodeB
  refine den_of [5, 8, 11] [] is_node_Copy ?_
  simp -implicitDefEqProofs [c_node_Copy, nodeD, Node.cells, peersD, intsD, itemsD, toldsD]
  refine callThen_of c1 ?_
  simp -implicitDefEqProofs [downTo]
  refine callThen_of c2 ?_
  simp -implicitDefEqProofs [downTo]
  refine callThen_of c3 ?_
  simp -implicitDefEqProofs [downTo]
end Go.AM
/- AM: contracts: the document's take; a node spoiled. -/
namespace Go.AM
set_option linter.unusedSimpArgs false
set_option linter.unusedVariables false
set_option maxRecDepth 8000
set_option maxHeartbeats 0
end Go.AM
/- Plain law: a store takes items twice. -/
namespace Go.AM
set_option linter.unusedSimpArgs false
set_option linter.unusedVariables false

end Go.AM
/- AM: contracts: writing; the document's. -/
namespace Go.AM
set_option linter.unusedSimpArgs false
set_option linter.unusedVariables false
set_option maxRecDepth 8000
set_option maxHeartbeats 0
def wrI (x : Node) (i : Item) : Item := { i with count := (getR x.items i.key).1.count + 1, writer := x.view.id }
def wrMay (x : Node) (i : Item) : Bool := nodeUp x && (byte i.key && byte i.value)
def wrOk (x : Node) (i : Item) : Bool := decide ((wrI x i).count ≤ 65535) && decide ((putR x.items (wrI x i)).2 = 0)
def wrN (x : Node) (i : Item) : Node := { x with items := (putR x.items (wrI x i)).1 }
def wrE (x : Node) (i : Item) : Int := if wrMay x i then 1701 else 1700
def getW : Option Item → Item × Bool
  | some i => (i, true)
  | none => (zeroItem, false)
theorem getR_mayW {is : List Item} (h : storeMay is = true) (k : Int) : getR is k = getW (getS is k) := by
  unfold getR
  rw [if_pos h]
  cases getS is k <;> rfl
theorem getR_count {is : List Item} (h : storeMay is = true) (k : Int) : 0 ≤ (getR is k).1.count ∧ (getR is k).1.count ≤ 65535 := by
  rw [getR_mayW h]
  cases hg : getS is k with
  | none => simp [getW, zeroItem]
  | some i =>
    have hm := ((storeMay_iff is).1 h).1 i (getS_key hg).2
    simp only [itemMay, verMay, Bool.and_eq_true, decide_eq_true_eq] at hm
    simp only [getW]
    omega
theorem write_no (x : Node) (i : Item) (hs : x.small) (h : wrMay x i = false) : Den PP 61 [nodeD x, .agg i.row] [] (.tup [.agg [.bool false, .int .i64 0, .nil, .nil, .nil, .nil], .int .i64 1700]) [] := by
  have c1 := node_Up x hs
  unfold wrMay at h
  generalize nodeUp x = U at *
  have c2 := item_Byte i.key
  have c3 := item_Byte i.value
  generalize byte i.key = A at *
  generalize byte i.value = B at *
  simp only [nodeD, Node.cells, peersD, intsD, itemsD, toldsD, Item.row] at c1 c2 c3 ⊢
  refine den_of [] [] is_write_write ?_
  cases U <;> cases A <;> cases B
  all_goals
    simp at h
  all_goals
    simp -implicitDefEqProofs [c_write_write]
    repeat' (first | (refine callThen_of (by first | exact c1 | exact c2 | exact c3) ?_; simp -implicitDefEqProofs [*]) | (with_reducible refine gOps_dec (fun _ => ?_) (fun _ => ?_) <;> simp -implicitDefEqProofs [*]) | (with_reducible refine gOps_ndec (fun _ => ?_) (fun _ => ?_) <;> simp -implicitDefEqProofs [*]) | (with_reducible refine gOps_and (fun hq => ?_) (fun hq => ?_) <;> (try simp at hq) <;> simp -implicitDefEqProofs [*]) | (with_reducible refine gOps_or (fun hq => ?_) (fun hq => ?_) <;> (try simp at hq) <;> simp -implicitDefEqProofs [*]) | (with_reducible refine gOps_not (fun hq => ?_) (fun hq => ?_) <;> (try simp at hq) <;> simp -implicitDefEqProofs [*]) | (with_reducible refine gOps_split (fun hq => ?_) (fun hq => ?_) <;> (try simp at hq) <;> simp -implicitDefEqProofs [*]) | (with_reducible refine condC_dec (fun _ => ?_) (fun _ => ?_) <;> simp -implicitDefEqProofs [*]) | (with_reducible refine condC_ndec (fun _ => ?_) (fun _ => ?_) <;> simp -implicitDefEqProofs [*]) | (with_reducible refine condC_and (fun hq => ?_) (fun hq => ?_) <;> (try simp at hq) <;> simp -implicitDefEqProofs [*]) | (with_reducible refine condC_or (fun hq => ?_) (fun hq => ?_) <;> (try simp at hq) <;> simp -implicitDefEqProofs [*]) | (with_reducible refine condC_not (fun hq => ?_) (fun hq => ?_) <;> (try simp at hq) <;> simp -implicitDefEqProofs [*]) | (with_reducible refine condC_split (fun hq => ?_) (fun hq => ?_) <;> (try simp at hq) <;> simp -implicitDefEqProofs [*]) | (refine appK2_if (by omega) ?_; simp -implicitDefEqProofs [*]) | (refine pureV_if (by omega) ?_; simp -implicitDefEqProofs [*]))
theorem write_full (x : Node) (i : Item) (hs : x.small) (h : wrMay x i = true) (hf : wrOk x i = false) : Den PP 61 [nodeD x, .agg i.row] [] (.tup [.agg [.bool false, .int .i64 0, .nil, .nil, .nil, .nil], .int .i64 1701]) [] := by
  have c1 := node_Up x hs
  unfold wrMay at h
  simp only [Bool.and_eq_true] at h
  obtain ⟨h1, h2, h3⟩ := h
  have c2 := item_Byte i.key
  have c3 := item_Byte i.value
  rw [h1] at c1
  rw [h2] at c2
  rw [h3] at c3
  have hst : storeMay x.items = true := by simp only [nodeUp, nodeMay, Bool.and_eq_true] at h1; grind
  have hc := getR_count hst i.key
  have c4 := store_Get x.items i.key (by have := hs.2.1; unfold cap16; omega)
  have c5 := node_Copy x hs
  have c6 := store_Put x.items (wrI x i) (by have := hs.2.1; unfold cap16; omega)
  unfold wrOk at hf
  unfold wrI at hf c6
  generalize getR x.items i.key = r at *
  obtain ⟨⟨ik, ic, iw, iv, ig⟩, g⟩ := r
  simp only at hc hf c6
  have w1 : IntKind.wrap .i64 (ic + 1) = ic + 1 := wrap_in (by omega) (by omega)
  clear h1 h2 h3 hst hc
  generalize putR x.items { i with count := ic + 1, writer := x.view.id } = q at *
  obtain ⟨is, e⟩ := q
  simp only [nodeD, Node.cells, peersD, intsD, itemsD, toldsD, Item.row, copyD, nodeB] at c1 c2 c3 c4 c5 c6 ⊢
  refine den_of [50, 55] [] is_write_write ?_
  by_cases hq : ic + 1 ≤ 65535
  · have hq2 : ¬ 65535 < ic + 1 := by omega
    have he : ¬ e = 0 := by simpa [hq] using hf
    clear hf hq
    simp -implicitDefEqProofs [c_write_write, w1]
    repeat' (first | (refine callThen_of (by first | exact c1 | exact c2 | exact c3 | exact c4 | exact c5 | exact c6) ?_; simp -implicitDefEqProofs [*, downTo, w1, hq2, he]) | (with_reducible refine gOps_dec (fun _ => ?_) (fun _ => ?_) <;> simp -implicitDefEqProofs [*, downTo, w1, hq2, he]) | (with_reducible refine gOps_ndec (fun _ => ?_) (fun _ => ?_) <;> simp -implicitDefEqProofs [*, downTo, w1, hq2, he]) | (with_reducible refine gOps_and (fun hq => ?_) (fun hq => ?_) <;> (try simp at hq) <;> simp -implicitDefEqProofs [*, downTo, w1, hq2, he]) | (with_reducible refine gOps_or (fun hq => ?_) (fun hq => ?_) <;> (try simp at hq) <;> simp -implicitDefEqProofs [*, downTo, w1, hq2, he]) | (with_reducible refine gOps_not (fun hq => ?_) (fun hq => ?_) <;> (try simp at hq) <;> simp -implicitDefEqProofs [*, downTo, w1, hq2, he]) | (with_reducible refine gOps_split (fun hq => ?_) (fun hq => ?_) <;> (try simp at hq) <;> simp -implicitDefEqProofs [*, downTo, w1, hq2, he]) | (with_reducible refine condC_dec (fun _ => ?_) (fun _ => ?_) <;> simp -implicitDefEqProofs [*, downTo, w1, hq2, he]) | (with_reducible refine condC_ndec (fun _ => ?_) (fun _ => ?_) <;> simp -implicitDefEqProofs [*, downTo, w1, hq2, he]) | (with_reducible refine condC_and (fun hq => ?_) (fun hq => ?_) <;> (try simp at hq) <;> simp -implicitDefEqProofs [*, downTo, w1, hq2, he]) | (with_reducible refine condC_or (fun hq => ?_) (fun hq => ?_) <;> (try simp at hq) <;> simp -implicitDefEqProofs [*, downTo, w1, hq2, he]) | (with_reducible refine condC_not (fun hq => ?_) (fun hq => ?_) <;> (try simp at hq) <;> simp -implicitDefEqProofs [*, downTo, w1, hq2, he]) | (with_reducible refine condC_split (fun hq => ?_) (fun hq => ?_) <;> (try simp at hq) <;> simp -implicitDefEqProofs [*, downTo, w1, hq2, he]) | (refine appK2_if (by omega) ?_; simp -implicitDefEqProofs [*, downTo, w1, hq2, he]) | (refine pureV_if (by omega) ?_; simp -implicitDefEqProofs [*, downTo, w1, hq2, he]))
  · have hq2 : 65535 < ic + 1 := by omega
    clear hf hq
    simp -implicitDefEqProofs [c_write_write, w1]
    repeat' (first | (refine callThen_of (by first | exact c1 | exact c2 | exact c3 | exact c4 | exact c5 | exact c6) ?_; simp -implicitDefEqProofs [*, downTo, w1, hq2]) | (with_reducible refine gOps_dec (fun _ => ?_) (fun _ => ?_) <;> simp -implicitDefEqProofs [*, downTo, w1, hq2]) | (with_reducible refine gOps_ndec (fun _ => ?_) (fun _ => ?_) <;> simp -implicitDefEqProofs [*, downTo, w1, hq2]) | (with_reducible refine gOps_and (fun hq => ?_) (fun hq => ?_) <;> (try simp at hq) <;> simp -implicitDefEqProofs [*, downTo, w1, hq2]) | (with_reducible refine gOps_or (fun hq => ?_) (fun hq => ?_) <;> (try simp at hq) <;> simp -implicitDefEqProofs [*, downTo, w1, hq2]) | (with_reducible refine gOps_not (fun hq => ?_) (fun hq => ?_) <;> (try simp at hq) <;> simp -implicitDefEqProofs [*, downTo, w1, hq2]) | (with_reducible refine gOps_split (fun hq => ?_) (fun hq => ?_) <;> (try simp at hq) <;> simp -implicitDefEqProofs [*, downTo, w1, hq2]) | (with_reducible refine condC_dec (fun _ => ?_) (fun _ => ?_) <;> simp -implicitDefEqProofs [*, downTo, w1, hq2]) | (with_reducible refine condC_ndec (fun _ => ?_) (fun _ => ?_) <;> simp -implicitDefEqProofs [*, downTo, w1, hq2]) | (with_reducible refine condC_and (fun hq => ?_) (fun hq => ?_) <;> (try simp at hq) <;> simp -implicitDefEqProofs [*, downTo, w1, hq2]) | (with_reducible refine condC_or (fun hq => ?_) (fun hq => ?_) <;> (try simp at hq) <;> simp -implicitDefEqProofs [*, downTo, w1, hq2]) | (with_reducible refine condC_not (fun hq => ?_) (fun hq => ?_) <;> (try simp at hq) <;> simp -implicitDefEqProofs [*, downTo, w1, hq2]) | (with_reducible refine condC_split (fun hq => ?_) (fun hq => ?_) <;> (try simp at hq) <;> simp -implicitDefEqProofs [*, downTo, w1, hq2]) | (refine appK2_if (by omega) ?_; simp -implicitDefEqProofs [*, downTo, w1, hq2]) | (refine pureV_if (by omega) ?_; simp -implicitDefEqProofs [*, downTo, w1, hq2]))
theorem write_ok (x : Node) (i : Item) (hs : x.small) (h : wrMay x i = true) (hf : wrOk x i = true) : Den PP 61 [nodeD x, .agg i.row] [] (.tup [copyD (wrN x i), .int .i64 0]) (nodeB (wrN x i)) := by
  have c1 := node_Up x hs
  unfold wrMay at h
  simp only [Bool.and_eq_true] at h
  obtain ⟨h1, h2, h3⟩ := h
  have c2 := item_Byte i.key
  have c3 := item_Byte i.value
  rw [h1] at c1
  rw [h2] at c2
  rw [h3] at c3
  have hst : storeMay x.items = true := by simp only [nodeUp, nodeMay, Bool.and_eq_true] at h1; grind
  have hc := getR_count hst i.key
  have c4 := store_Get x.items i.key (by have := hs.2.1; unfold cap16; omega)
  have c5 := node_Copy x hs
  have c6 := store_Put x.items (wrI x i) (by have := hs.2.1; unfold cap16; omega)
  unfold wrOk at hf
  unfold wrN
  unfold wrI at hf c6 ⊢
  generalize getR x.items i.key = r at *
  obtain ⟨⟨ik, ic, iw, iv, ig⟩, g⟩ := r
  simp only at hc hf c6
  have w1 : IntKind.wrap .i64 (ic + 1) = ic + 1 := wrap_in (by omega) (by omega)
  simp only
  clear h1 h2 h3 hst hc
  generalize putR x.items { i with count := ic + 1, writer := x.view.id } = q at *
  obtain ⟨is, e⟩ := q
  simp only [Bool.and_eq_true, decide_eq_true_eq] at hf
  obtain ⟨hq, he⟩ := hf
  subst he
  have hq2 : ¬ 65535 < ic + 1 := by omega
  clear hq
  simp only [nodeD, Node.cells, peersD, intsD, itemsD, toldsD, Item.row, copyD, nodeB] at c1 c2 c3 c4 c5 c6 ⊢
  refine den_of [50, 55] [] is_write_write ?_
  simp -implicitDefEqProofs [c_write_write, w1]
  repeat' (first | (refine callThen_of (by first | exact c1 | exact c2 | exact c3 | exact c4 | exact c5 | exact c6) ?_; simp -implicitDefEqProofs [*, downTo, w1, hq2]) | (with_reducible refine gOps_dec (fun _ => ?_) (fun _ => ?_) <;> simp -implicitDefEqProofs [*, downTo, w1, hq2]) | (with_reducible refine gOps_ndec (fun _ => ?_) (fun _ => ?_) <;> simp -implicitDefEqProofs [*, downTo, w1, hq2]) | (with_reducible refine gOps_and (fun hq => ?_) (fun hq => ?_) <;> (try simp at hq) <;> simp -implicitDefEqProofs [*, downTo, w1, hq2]) | (with_reducible refine gOps_or (fun hq => ?_) (fun hq => ?_) <;> (try simp at hq) <;> simp -implicitDefEqProofs [*, downTo, w1, hq2]) | (with_reducible refine gOps_not (fun hq => ?_) (fun hq => ?_) <;> (try simp at hq) <;> simp -implicitDefEqProofs [*, downTo, w1, hq2]) | (with_reducible refine gOps_split (fun hq => ?_) (fun hq => ?_) <;> (try simp at hq) <;> simp -implicitDefEqProofs [*, downTo, w1, hq2]) | (with_reducible refine condC_dec (fun _ => ?_) (fun _ => ?_) <;> simp -implicitDefEqProofs [*, downTo, w1, hq2]) | (with_reducible refine condC_ndec (fun _ => ?_) (fun _ => ?_) <;> simp -implicitDefEqProofs [*, downTo, w1, hq2]) | (with_reducible refine condC_and (fun hq => ?_) (fun hq => ?_) <;> (try simp at hq) <;> simp -implicitDefEqProofs [*, downTo, w1, hq2]) | (with_reducible refine condC_or (fun hq => ?_) (fun hq => ?_) <;> (try simp at hq) <;> simp -implicitDefEqProofs [*, downTo, w1, hq2]) | (with_reducible refine condC_not (fun hq => ?_) (fun hq => ?_) <;> (try simp at hq) <;> simp -implicitDefEqProofs [*, downTo, w1, hq2]) | (with_reducible refine condC_split (fun hq => ?_) (fun hq => ?_) <;> (try simp at hq) <;> simp -implicitDefEqProofs [*, downTo, w1, hq2]) | (refine appK2_if (by omega) ?_; simp -implicitDefEqProofs [*, downTo, w1, hq2]) | (refine pureV_if (by omega) ?_; simp -implicitDefEqProofs [*, downTo, w1, hq2]))
end Go.AM
/- AM: chapter 17's statements: Writes. -/
namespace Go.AM
set_option linter.unusedSimpArgs false
set_option linter.unusedVariables false
set_option maxRecDepth 8000
set_option maxHeartbeats 0
def wrAll (x : Node) (i : Item) : Bool := wrMay x i && wrOk x i
def putI (k v : Int) : Item := ⟨k, 0, 0, v, false⟩
def dropI (k : Int) : Item := ⟨k, 0, 0, 0, true⟩
theorem write_bad (x : Node) (i : Item) (hs : x.small) (h : wrAll x i = false) : Den PP 61 [nodeD x, .agg i.row] [] (.tup [.agg [.bool false, .int .i64 0, .nil, .nil, .nil, .nil], .int .i64 (wrE x i)]) [] := by
  cases hm : wrMay x i with
  | false => simpa [wrE, hm] using write_no x i hs hm
  | true => simpa [wrE, hm] using write_full x i hs hm (by simpa [wrAll, hm] using h)
theorem wrAll_parts {x : Node} {i : Item} (h : wrAll x i = true) : wrMay x i = true ∧ wrOk x i = true := by
  simpa [wrAll] using h
theorem write_Put_bad (x : Node) (k v : Int) (hs : x.small) (h : wrAll x (putI k v) = false) : Den PP 30 [nodeD x, .int .i64 k, .int .i64 v] [] (.tup [.agg [.bool false, .int .i64 0, .nil, .nil, .nil, .nil], .int .i64 (wrE x (putI k v))]) [] := by
  have c1 := write_bad x (putI k v) hs h
  generalize wrE x (putI k v) = e at *
  clear h
  simp only [nodeD, Node.cells, peersD, intsD, itemsD, toldsD, Item.row, copyD, nodeB, putI, dropI] at c1 ⊢
  refine den_of [12] [] is_write_Put ?_
  simp -implicitDefEqProofs [c_write_Put]
  repeat' (first | (refine callThen_of (by first | exact c1) ?_; simp -implicitDefEqProofs [*, downTo]) | (with_reducible refine gOps_dec (fun _ => ?_) (fun _ => ?_) <;> simp -implicitDefEqProofs [*, downTo]) | (with_reducible refine gOps_ndec (fun _ => ?_) (fun _ => ?_) <;> simp -implicitDefEqProofs [*, downTo]) | (with_reducible refine gOps_and (fun hq => ?_) (fun hq => ?_) <;> (try simp at hq) <;> simp -implicitDefEqProofs [*, downTo]) | (with_reducible refine gOps_or (fun hq => ?_) (fun hq => ?_) <;> (try simp at hq) <;> simp -implicitDefEqProofs [*, downTo]) | (with_reducible refine gOps_not (fun hq => ?_) (fun hq => ?_) <;> (try simp at hq) <;> simp -implicitDefEqProofs [*, downTo]) | (with_reducible refine gOps_split (fun hq => ?_) (fun hq => ?_) <;> (try simp at hq) <;> simp -implicitDefEqProofs [*, downTo]) | (with_reducible refine condC_dec (fun _ => ?_) (fun _ => ?_) <;> simp -implicitDefEqProofs [*, downTo]) | (with_reducible refine condC_ndec (fun _ => ?_) (fun _ => ?_) <;> simp -implicitDefEqProofs [*, downTo]) | (with_reducible refine condC_and (fun hq => ?_) (fun hq => ?_) <;> (try simp at hq) <;> simp -implicitDefEqProofs [*, downTo]) | (with_reducible refine condC_or (fun hq => ?_) (fun hq => ?_) <;> (try simp at hq) <;> simp -implicitDefEqProofs [*, downTo]) | (with_reducible refine condC_not (fun hq => ?_) (fun hq => ?_) <;> (try simp at hq) <;> simp -implicitDefEqProofs [*, downTo]) | (with_reducible refine condC_split (fun hq => ?_) (fun hq => ?_) <;> (try simp at hq) <;> simp -implicitDefEqProofs [*, downTo]) | (refine appK2_if (by omega) ?_; simp -implicitDefEqProofs [*, downTo]) | (refine pureV_if (by omega) ?_; simp -implicitDefEqProofs [*, downTo]))
theorem write_Put_ok (x : Node) (k v : Int) (hs : x.small) (h : wrAll x (putI k v) = true) : Den PP 30 [nodeD x, .int .i64 k, .int .i64 v] [] (.tup [copyD (wrN x (putI k v)), .int .i64 0]) (nodeB (wrN x (putI k v))) := by
  have c1 := write_ok x (putI k v) hs (wrAll_parts h).1 (wrAll_parts h).2
  generalize wrN x (putI k v) = y at *
  clear h
  simp only [nodeD, Node.cells, peersD, intsD, itemsD, toldsD, Item.row, copyD, nodeB, putI, dropI] at c1 ⊢
  refine den_of [12] [] is_write_Put ?_
  simp -implicitDefEqProofs [c_write_Put]
  repeat' (first | (refine callThen_of (by first | exact c1) ?_; simp -implicitDefEqProofs [*, downTo]) | (with_reducible refine gOps_dec (fun _ => ?_) (fun _ => ?_) <;> simp -implicitDefEqProofs [*, downTo]) | (with_reducible refine gOps_ndec (fun _ => ?_) (fun _ => ?_) <;> simp -implicitDefEqProofs [*, downTo]) | (with_reducible refine gOps_and (fun hq => ?_) (fun hq => ?_) <;> (try simp at hq) <;> simp -implicitDefEqProofs [*, downTo]) | (with_reducible refine gOps_or (fun hq => ?_) (fun hq => ?_) <;> (try simp at hq) <;> simp -implicitDefEqProofs [*, downTo]) | (with_reducible refine gOps_not (fun hq => ?_) (fun hq => ?_) <;> (try simp at hq) <;> simp -implicitDefEqProofs [*, downTo]) | (with_reducible refine gOps_split (fun hq => ?_) (fun hq => ?_) <;> (try simp at hq) <;> simp -implicitDefEqProofs [*, downTo]) | (with_reducible refine condC_dec (fun _ => ?_) (fun _ => ?_) <;> simp -implicitDefEqProofs [*, downTo]) | (with_reducible refine condC_ndec (fun _ => ?_) (fun _ => ?_) <;> simp -implicitDefEqProofs [*, downTo]) | (with_reducible refine condC_and (fun hq => ?_) (fun hq => ?_) <;> (try simp at hq) <;> simp -implicitDefEqProofs [*, downTo]) | (with_reducible refine condC_or (fun hq => ?_) (fun hq => ?_) <;> (try simp at hq) <;> simp -implicitDefEqProofs [*, downTo]) | (with_reducible refine condC_not (fun hq => ?_) (fun hq => ?_) <;> (try simp at hq) <;> simp -implicitDefEqProofs [*, downTo]) | (with_reducible refine condC_split (fun hq => ?_) (fun hq => ?_) <;> (try simp at hq) <;> simp -implicitDefEqProofs [*, downTo]) | (refine appK2_if (by omega) ?_; simp -implicitDefEqProofs [*, downTo]) | (refine pureV_if (by omega) ?_; simp -implicitDefEqProofs [*, downTo]))
theorem write_Drop_bad (x : Node) (k : Int) (hs : x.small) (h : wrAll x (dropI k) = false) : Den PP 32 [nodeD x, .int .i64 k] [] (.tup [.agg [.bool false, .int .i64 0, .nil, .nil, .nil, .nil], .int .i64 (wrE x (dropI k))]) [] := by
  have c1 := write_bad x (dropI k) hs h
  generalize wrE x (dropI k) = e at *
  clear h
  simp only [nodeD, Node.cells, peersD, intsD, itemsD, toldsD, Item.row, copyD, nodeB, putI, dropI] at c1 ⊢
  refine den_of [9] [] is_write_Drop ?_
  simp -implicitDefEqProofs [c_write_Drop]
  repeat' (first | (refine callThen_of (by first | exact c1) ?_; simp -implicitDefEqProofs [*, downTo]) | (with_reducible refine gOps_dec (fun _ => ?_) (fun _ => ?_) <;> simp -implicitDefEqProofs [*, downTo]) | (with_reducible refine gOps_ndec (fun _ => ?_) (fun _ => ?_) <;> simp -implicitDefEqProofs [*, downTo]) | (with_reducible refine gOps_and (fun hq => ?_) (fun hq => ?_) <;> (try simp at hq) <;> simp -implicitDefEqProofs [*, downTo]) | (with_reducible refine gOps_or (fun hq => ?_) (fun hq => ?_) <;> (try simp at hq) <;> simp -implicitDefEqProofs [*, downTo]) | (with_reducible refine gOps_not (fun hq => ?_) (fun hq => ?_) <;> (try simp at hq) <;> simp -implicitDefEqProofs [*, downTo]) | (with_reducible refine gOps_split (fun hq => ?_) (fun hq => ?_) <;> (try simp at hq) <;> simp -implicitDefEqProofs [*, downTo]) | (with_reducible refine condC_dec (fun _ => ?_) (fun _ => ?_) <;> simp -implicitDefEqProofs [*, downTo]) | (with_reducible refine condC_ndec (fun _ => ?_) (fun _ => ?_) <;> simp -implicitDefEqProofs [*, downTo]) | (with_reducible refine condC_and (fun hq => ?_) (fun hq => ?_) <;> (try simp at hq) <;> simp -implicitDefEqProofs [*, downTo]) | (with_reducible refine condC_or (fun hq => ?_) (fun hq => ?_) <;> (try simp at hq) <;> simp -implicitDefEqProofs [*, downTo]) | (with_reducible refine condC_not (fun hq => ?_) (fun hq => ?_) <;> (try simp at hq) <;> simp -implicitDefEqProofs [*, downTo]) | (with_reducible refine condC_split (fun hq => ?_) (fun hq => ?_) <;> (try simp at hq) <;> simp -implicitDefEqProofs [*, downTo]) | (refine appK2_if (by omega) ?_; simp -implicitDefEqProofs [*, downTo]) | (refine pureV_if (by omega) ?_; simp -implicitDefEqProofs [*, downTo]))
theorem write_Drop_ok (x : Node) (k : Int) (hs : x.small) (h : wrAll x (dropI k) = true) : Den PP 32 [nodeD x, .int .i64 k] [] (.tup [copyD (wrN x (dropI k)), .int .i64 0]) (nodeB (wrN x (dropI k))) := by
  have c1 := write_ok x (dropI k) hs (wrAll_parts h).1 (wrAll_parts h).2
  generalize wrN x (dropI k) = y at *
  clear h
  simp only [nodeD, Node.cells, peersD, intsD, itemsD, toldsD, Item.row, copyD, nodeB, putI, dropI] at c1 ⊢
  refine den_of [9] [] is_write_Drop ?_
  simp -implicitDefEqProofs [c_write_Drop]
  repeat' (first | (refine callThen_of (by first | exact c1) ?_; simp -implicitDefEqProofs [*, downTo]) | (with_reducible refine gOps_dec (fun _ => ?_) (fun _ => ?_) <;> simp -implicitDefEqProofs [*, downTo]) | (with_reducible refine gOps_ndec (fun _ => ?_) (fun _ => ?_) <;> simp -implicitDefEqProofs [*, downTo]) | (with_reducible refine gOps_and (fun hq => ?_) (fun hq => ?_) <;> (try simp at hq) <;> simp -implicitDefEqProofs [*, downTo]) | (with_reducible refine gOps_or (fun hq => ?_) (fun hq => ?_) <;> (try simp at hq) <;> simp -implicitDefEqProofs [*, downTo]) | (with_reducible refine gOps_not (fun hq => ?_) (fun hq => ?_) <;> (try simp at hq) <;> simp -implicitDefEqProofs [*, downTo]) | (with_reducible refine gOps_split (fun hq => ?_) (fun hq => ?_) <;> (try simp at hq) <;> simp -implicitDefEqProofs [*, downTo]) | (with_reducible refine condC_dec (fun _ => ?_) (fun _ => ?_) <;> simp -implicitDefEqProofs [*, downTo]) | (with_reducible refine condC_ndec (fun _ => ?_) (fun _ => ?_) <;> simp -implicitDefEqProofs [*, downTo]) | (with_reducible refine condC_and (fun hq => ?_) (fun hq => ?_) <;> (try simp at hq) <;> simp -implicitDefEqProofs [*, downTo]) | (with_reducible refine condC_or (fun hq => ?_) (fun hq => ?_) <;> (try simp at hq) <;> simp -implicitDefEqProofs [*, downTo]) | (with_reducible refine condC_not (fun hq => ?_) (fun hq => ?_) <;> (try simp at hq) <;> simp -implicitDefEqProofs [*, downTo]) | (with_reducible refine condC_split (fun hq => ?_) (fun hq => ?_) <;> (try simp at hq) <;> simp -implicitDefEqProofs [*, downTo]) | (refine appK2_if (by omega) ?_; simp -implicitDefEqProofs [*, downTo]) | (refine pureV_if (by omega) ?_; simp -implicitDefEqProofs [*, downTo]))
def itW (k c : Int) : Item := ⟨k, c, 1, c % 256, false⟩
def nodeW : Node := ⟨true, ⟨100, [⟨101, 2⟩, ⟨200, 0⟩, ⟨90, 1⟩], [7]⟩, [⟨95, 1, 1, 1, false⟩, ⟨99, 3, 1, 3, false⟩, ⟨250, 2, 1, 2, false⟩], []⟩
theorem small_nodeW : nodeW.small := by unfold Node.small View.small cap16 cap; decide
theorem law17_it (k c : Int) : Den PP 38 [.int .i64 k, .int .i64 c] [] (.agg (itW k c).row) [] := by
  refine den_of [] [] is_gimmallaw17_it ?_
  simp -implicitDefEqProofs [c_gimmallaw17_it, itW, Item.row]
theorem law17_node100 : Den PP 37 [] [] (.agg [.bool true, .int .i64 100, .ref 0 0 3, .ref 1 0 1, .ref 2 0 3, .nil]) [⟨nodeW.view.peers.map Peer.row, 2, .mut⟩, ⟨nodeW.view.passive.map irow, 1, .mut⟩, ⟨nodeW.items.map Item.row, 5, .mut⟩] := by
  have i1 := law17_it 95 1
  have i2 := law17_it 99 3
  have i3 := law17_it 250 2
  simp [itW, Item.row] at i1 i2 i3
  refine den_of [] [] is_gimmallaw17_node100 ?_
  simp -implicitDefEqProofs [c_gimmallaw17_node100, nodeW, Peer.row, irow, Item.row]
  repeat' (first | (refine callThen_of (by first | exact i1 | exact i2 | exact i3) ?_; simp -implicitDefEqProofs [*, nodeW, Peer.row, irow, Item.row]) | (with_reducible refine gOps_dec (fun _ => ?_) (fun _ => ?_) <;> simp -implicitDefEqProofs [*, nodeW, Peer.row, irow, Item.row]) | (with_reducible refine gOps_ndec (fun _ => ?_) (fun _ => ?_) <;> simp -implicitDefEqProofs [*, nodeW, Peer.row, irow, Item.row]) | (with_reducible refine gOps_and (fun hq => ?_) (fun hq => ?_) <;> (try simp at hq) <;> simp -implicitDefEqProofs [*, nodeW, Peer.row, irow, Item.row]) | (with_reducible refine gOps_or (fun hq => ?_) (fun hq => ?_) <;> (try simp at hq) <;> simp -implicitDefEqProofs [*, nodeW, Peer.row, irow, Item.row]) | (with_reducible refine gOps_not (fun hq => ?_) (fun hq => ?_) <;> (try simp at hq) <;> simp -implicitDefEqProofs [*, nodeW, Peer.row, irow, Item.row]) | (with_reducible refine gOps_split (fun hq => ?_) (fun hq => ?_) <;> (try simp at hq) <;> simp -implicitDefEqProofs [*, nodeW, Peer.row, irow, Item.row]) | (with_reducible refine condC_dec (fun _ => ?_) (fun _ => ?_) <;> simp -implicitDefEqProofs [*, nodeW, Peer.row, irow, Item.row]) | (with_reducible refine condC_ndec (fun _ => ?_) (fun _ => ?_) <;> simp -implicitDefEqProofs [*, nodeW, Peer.row, irow, Item.row]) | (with_reducible refine condC_and (fun hq => ?_) (fun hq => ?_) <;> (try simp at hq) <;> simp -implicitDefEqProofs [*, nodeW, Peer.row, irow, Item.row]) | (with_reducible refine condC_or (fun hq => ?_) (fun hq => ?_) <;> (try simp at hq) <;> simp -implicitDefEqProofs [*, nodeW, Peer.row, irow, Item.row]) | (with_reducible refine condC_not (fun hq => ?_) (fun hq => ?_) <;> (try simp at hq) <;> simp -implicitDefEqProofs [*, nodeW, Peer.row, irow, Item.row]) | (with_reducible refine condC_split (fun hq => ?_) (fun hq => ?_) <;> (try simp at hq) <;> simp -implicitDefEqProofs [*, nodeW, Peer.row, irow, Item.row]) | (refine appK2_if (by omega) ?_; simp -implicitDefEqProofs [*, nodeW, Peer.row, irow, Item.row]) | (refine pureV_if (by omega) ?_; simp -implicitDefEqProofs [*, nodeW, Peer.row, irow, Item.row]))
theorem law17_awake : Den PP 36 [] [] (.bool true) [] := by
  have g1 := write_Put_ok nodeW 99 7 small_nodeW (by decide +kernel)
  have g2 := write_Drop_ok nodeW 5 small_nodeW (by decide +kernel)
  have g3 := write_Put_bad ⟨false, ⟨9, [], []⟩, [], []⟩ 5 7 (by unfold Node.small View.small cap16 cap; simp) (by decide +kernel)
  have g4 := write_Put_bad nodeW 5 256 small_nodeW (by decide +kernel)
  have e1 : wrN nodeW (putI 99 7) = { nodeW with items := [itW 95 1, ⟨99, 4, 100, 7, false⟩, itW 250 2] } := by decide +kernel
  have e2 : wrN nodeW (dropI 5) = { nodeW with items := [⟨5, 1, 100, 0, true⟩, itW 95 1, itW 99 3, itW 250 2] } := by decide +kernel
  have e3 : wrE ⟨false, ⟨9, [], []⟩, [], []⟩ (putI 5 7) = 1700 := by decide +kernel
  have e4 : wrE nodeW (putI 5 256) = 1700 := by decide +kernel
  rw [e1] at g1
  rw [e2] at g2
  rw [e3] at g3
  rw [e4] at g4
  clear e1 e2 e3 e4
  simp [copyD, nodeB, nodeW, itW, zeroItem, nodeD, Node.cells, peersD, intsD, itemsD, toldsD, Peer.row, irow, Item.row] at g1 g2 g3 g4
  have g0 := law17_node100
  simp [nodeW, Peer.row, irow, Item.row] at g0
  refine den_of [] [] is_gimmallaw17_awake ?_
  simp -implicitDefEqProofs [c_gimmallaw17_awake, EQS]
  repeat' (first | (refine callThen_of (by first | exact g0 | exact g1 | exact den_nrm (g1) | exact den_nrm (by simpa using g1) | exact g2 | exact den_nrm (g2) | exact den_nrm (by simpa using g2) | exact g3 | exact den_nrm (g3) | exact den_nrm (by simpa using g3) | exact g4 | exact den_nrm (g4) | exact den_nrm (by simpa using g4) | exact law_Num _) ?_; simp -implicitDefEqProofs [*, downTo, EQS]) | (with_reducible refine gOps_dec (fun _ => ?_) (fun _ => ?_) <;> simp -implicitDefEqProofs [*, downTo, EQS]) | (with_reducible refine gOps_ndec (fun _ => ?_) (fun _ => ?_) <;> simp -implicitDefEqProofs [*, downTo, EQS]) | (with_reducible refine gOps_and (fun hq => ?_) (fun hq => ?_) <;> (try simp at hq) <;> simp -implicitDefEqProofs [*, downTo, EQS]) | (with_reducible refine gOps_or (fun hq => ?_) (fun hq => ?_) <;> (try simp at hq) <;> simp -implicitDefEqProofs [*, downTo, EQS]) | (with_reducible refine gOps_not (fun hq => ?_) (fun hq => ?_) <;> (try simp at hq) <;> simp -implicitDefEqProofs [*, downTo, EQS]) | (with_reducible refine gOps_split (fun hq => ?_) (fun hq => ?_) <;> (try simp at hq) <;> simp -implicitDefEqProofs [*, downTo, EQS]) | (with_reducible refine condC_dec (fun _ => ?_) (fun _ => ?_) <;> simp -implicitDefEqProofs [*, downTo, EQS]) | (with_reducible refine condC_ndec (fun _ => ?_) (fun _ => ?_) <;> simp -implicitDefEqProofs [*, downTo, EQS]) | (with_reducible refine condC_and (fun hq => ?_) (fun hq => ?_) <;> (try simp at hq) <;> simp -implicitDefEqProofs [*, downTo, EQS]) | (with_reducible refine condC_or (fun hq => ?_) (fun hq => ?_) <;> (try simp at hq) <;> simp -implicitDefEqProofs [*, downTo, EQS]) | (with_reducible refine condC_not (fun hq => ?_) (fun hq => ?_) <;> (try simp at hq) <;> simp -implicitDefEqProofs [*, downTo, EQS]) | (with_reducible refine condC_split (fun hq => ?_) (fun hq => ?_) <;> (try simp at hq) <;> simp -implicitDefEqProofs [*, downTo, EQS]) | (refine appK2_if (by omega) ?_; simp -implicitDefEqProofs [*, downTo, EQS]) | (refine pureV_if (by omega) ?_; simp -implicitDefEqProofs [*, downTo, EQS]))
end Go.AM
/- AM: chapter 17's statements: WriteNewer, WriteOther. -/
namespace Go.AM
set_option linter.unusedSimpArgs false
set_option linter.unusedVariables false
set_option maxRecDepth 8000
set_option maxHeartbeats 0
end Go.AM
/- AM: chapter 17's statements: WriteForms, WriteRow. -/
namespace Go.AM
set_option linter.unusedSimpArgs false
set_option linter.unusedVariables false
set_option maxRecDepth 8000
set_option maxHeartbeats 0
def fullW : Node := { nodeW with items := (List.range 16).map fun (j : Nat) => itW (2 * (j : Int)) 1 }
theorem fullW_1 : ∀ m : Fin 16, wrAll fullW (dropI (1 + 2 * ((m.val : Nat) : Int))) = false ∧ wrE fullW (dropI (1 + 2 * ((m.val : Nat) : Int))) = 1701 := by decide +kernel
theorem fullW_2 : ∀ m : Fin 16, wrAll fullW (dropI (2 * ((m.val : Nat) : Int))) = true := by decide +kernel
theorem small_fullW : fullW.small := by unfold Node.small View.small cap16 cap; decide
def WFBox (d : D) : Blk := ⟨[[.bool true, .int .i64 100, .sl [[.int .i64 101, .int .i64 2], [.int .i64 200, .int .i64 0], [.int .i64 90, .int .i64 1]] 3, .sl [[.int .i64 7]] 1, d, .nil]], 6, .box⟩
def WFRows (i : Nat) : List (List D) := (List.range i).map fun (j : Nat) => (itW (2 * (j : Int)) 1).row
def WFBs (i : Nat) (bs : List Blk) : Prop := ∃ p0 p1 p2 p3 p4 p5 p6 p7 p8 p9 p10 p11 p12 : Blk, (i = 0 ∧ bs = [p0, p1, p2, p3, p4, p5, p6, p7, p8, p9, p10, p11, p12, WFBox .nil]) ∨ (0 < i ∧ bs = [p0, p1, p2, p3, p4, p5, p6, p7, p8, p9, p10, p11, p12, WFBox (.ref 14 0 i), ⟨WFRows i, 5, .mut⟩])
def WFFr (x : Int) (fr : Nat → D) : Prop := fr 1 = .int .i64 x ∧ fr 8 = .int .i64 1700 ∧ fr 10 = .int .i64 1700 ∧ fr 12 = .int .i64 1700 ∧ fr 14 = .int .i64 1700 ∧ fr 16 = .int .i64 1700 ∧ fr 19 = .int .i64 1701 ∧ fr 20 = .ptr 13 0 0
theorem WFRows_succ (i : Nat) : WFRows i ++ [[.int .i64 (2 * (i : Int)), .int .i64 1, .int .i64 1, .int .i64 1, .bool false]] = WFRows (i + 1) := by
  unfold WFRows
  rw [List.range_succ, List.map_append]
  rfl
theorem WFRows_len (i : Nat) : (WFRows i).length = i := by simp [WFRows]
theorem WFRows_fits (i : Nat) : Fits 5 (WFRows i) := by
  intro r hr
  obtain ⟨j, _, rfl⟩ := List.mem_map.1 hr
  exact ⟨rfl, rfl⟩
theorem WFRows_mapR (f g : Nat → Nat → Nat → D) (i : Nat) : (WFRows i).map (fun r => r.map (D.mapR f g)) = WFRows i := by
  unfold WFRows
  rw [List.map_map]
  rfl
theorem law17_WriteForms (which x : Int) : Den PP 11 [.int .i64 which, .int .i64 x] [] (.bool true) [] := by
  have hd : 0 ≤ x % 1024 ∧ x % 1024 < 1024 := by omega
  have w1 : IntKind.wrap .i64 (1 + x % 1024) = 1 + x % 1024 := wrap_in (by omega) (by omega)
  have w4 : IntKind.wrap .i64 (255 + (1 + x % 1024)) = 255 + (1 + x % 1024) := wrap_in (by omega) (by omega)
  have w5 : IntKind.wrap .i64 (-(1 + x % 1024)) = -(1 + x % 1024) := wrap_in (by omega) (by omega)
  have w7 : IntKind.wrap .i64 (2 * (x % 16)) = 2 * (x % 16) := wrap_in (by omega) (by omega)
  have w8 : IntKind.wrap .i64 (1 + 2 * (x % 16)) = 1 + 2 * (x % 16) := wrap_in (by omega) (by omega)
  have a1 := write_Put_bad { nodeW with items := [itW 9 1, itW 3 1] } 5 5 (by unfold Node.small View.small cap16 cap; decide) (by decide +kernel)
  have a2 := write_Drop_bad ⟨false, ⟨5, [], []⟩, [], []⟩ 5 (by unfold Node.small View.small cap16 cap; decide) (by decide +kernel)
  have a6 := write_Put_bad { nodeW with items := [itW 9 65535] } 9 5 (by unfold Node.small View.small cap16 cap; decide) (by decide +kernel)
  rw [show wrE { nodeW with items := [itW 9 1, itW 3 1] } (putI 5 5) = 1700 by decide +kernel] at a1
  rw [show wrE ⟨false, ⟨5, [], []⟩, [], []⟩ (dropI 5) = 1700 by decide +kernel] at a2
  rw [show wrE { nodeW with items := [itW 9 65535] } (putI 9 5) = 1701 by decide +kernel] at a6
  have hbad : ∀ K : Int, byte K = false → Den PP 30 [nodeD nodeW, .int .i64 K, .int .i64 5] [] (.tup [.agg [.bool false, .int .i64 0, .nil, .nil, .nil, .nil], .int .i64 1700]) [] ∧
      Den PP 30 [nodeD nodeW, .int .i64 5, .int .i64 K] [] (.tup [.agg [.bool false, .int .i64 0, .nil, .nil, .nil, .nil], .int .i64 1700]) [] ∧
      Den PP 32 [nodeD nodeW, .int .i64 K] [] (.tup [.agg [.bool false, .int .i64 0, .nil, .nil, .nil, .nil], .int .i64 1700]) [] := by
    intro K hK
    have m1 : wrMay nodeW (putI K 5) = false := by simp [wrMay, putI, hK]
    have m2 : wrMay nodeW (putI 5 K) = false := by simp [wrMay, putI, hK]
    have m3 : wrMay nodeW (dropI K) = false := by simp [wrMay, dropI, hK]
    have c1 := write_Put_bad nodeW K 5 small_nodeW (by simp [wrAll, m1])
    have c2 := write_Put_bad nodeW 5 K small_nodeW (by simp [wrAll, m2])
    have c3 := write_Drop_bad nodeW K small_nodeW (by simp [wrAll, m3])
    simp only [wrE, m1, m2, m3, Bool.false_eq_true, if_false] at c1 c2 c3
    exact ⟨c1, c2, c3⟩
  obtain ⟨b1, b2, b3⟩ := hbad (-(1 + x % 1024)) (by simp only [byte, Bool.and_eq_false_iff, decide_eq_false_iff_not]; omega)
  obtain ⟨b4, b5, b6⟩ := hbad (255 + (1 + x % 1024)) (by simp only [byte, Bool.and_eq_false_iff, decide_eq_false_iff_not]; omega)
  clear hbad
  have hm1 := fullW_1 ⟨(x % 16).toNat, by omega⟩
  have hm2 := fullW_2 ⟨(x % 16).toNat, by omega⟩
  have hmx : (((x % 16).toNat : Nat) : Int) = x % 16 := by omega
  simp only [hmx] at hm1 hm2
  have f1 := write_Drop_bad fullW (1 + 2 * (x % 16)) small_fullW hm1.1
  rw [hm1.2] at f1
  have f2 := write_Drop_ok fullW (2 * (x % 16)) small_fullW hm2
  have f3 := ref_NodeMay fullW small_fullW
  rw [show nodeMay fullW = true by decide +kernel] at f3
  generalize wrN fullW (dropI (2 * (x % 16))) = Y at f2
  have g0 := law17_node100
  have i1 := law17_it 9 1
  have i2 := law17_it 3 1
  have i3 := law17_it 9 65535
  have hfl : fullW.items.length = 16 := by decide
  have hfi : fullW = { nodeW with items := fullW.items } := rfl
  have hfr : (List.range 16).map (fun (j : Nat) => (itW (2 * (j : Int)) 1).row) = fullW.items.map Item.row := by unfold fullW; simp only; rw [List.map_map]; rfl
  clear hm1 hm2 hmx
  rw [hfi] at f1 f2 f3
  clear hfi
  generalize fullW.items = F at *
  simp [nodeD, Node.cells, peersD, intsD, itemsD, toldsD, Peer.row, irow, Item.row, nodeW, itW, copyD, nodeB, hfl] at a1 a2 a6 b1 b2 b3 b4 b5 b6 f1 f2 f3 g0 i1 i2 i3
  have h2 : which % 2 = 0 ∨ which % 2 = 1 := by omega
  refine den_of [] [] is_gimmallaw17_WriteForms ?_
  rcases h2 with h2 | h2
  all_goals
    simp -implicitDefEqProofs [c_gimmallaw17_WriteForms, h2, w1, w4, w5]
    repeat' (first | (refine callThen_of (by first | exact law17_awake | exact g0 | exact i1 | exact i2 | exact i3 | exact a1 | exact den_nrm (a1) | exact den_nrm (by simpa using a1) | exact a2 | exact den_nrm (a2) | exact den_nrm (by simpa using a2) | exact a6 | exact den_nrm (a6) | exact den_nrm (by simpa using a6) | exact b1 | exact den_nrm (b1) | exact den_nrm (by simpa using b1) | exact b2 | exact den_nrm (b2) | exact den_nrm (by simpa using b2) | exact b3 | exact den_nrm (b3) | exact den_nrm (by simpa using b3) | exact b4 | exact den_nrm (b4) | exact den_nrm (by simpa using b4) | exact b5 | exact den_nrm (b5) | exact den_nrm (by simpa using b5) | exact b6 | exact den_nrm (b6) | exact den_nrm (by simpa using b6)) ?_; simp -implicitDefEqProofs [*, downTo, h2, w1, w4, w5]) | (with_reducible refine gOps_dec (fun _ => ?_) (fun _ => ?_) <;> simp -implicitDefEqProofs [*, downTo, h2, w1, w4, w5]) | (with_reducible refine gOps_ndec (fun _ => ?_) (fun _ => ?_) <;> simp -implicitDefEqProofs [*, downTo, h2, w1, w4, w5]) | (with_reducible refine gOps_and (fun hq => ?_) (fun hq => ?_) <;> (try simp at hq) <;> simp -implicitDefEqProofs [*, downTo, h2, w1, w4, w5]) | (with_reducible refine gOps_or (fun hq => ?_) (fun hq => ?_) <;> (try simp at hq) <;> simp -implicitDefEqProofs [*, downTo, h2, w1, w4, w5]) | (with_reducible refine gOps_not (fun hq => ?_) (fun hq => ?_) <;> (try simp at hq) <;> simp -implicitDefEqProofs [*, downTo, h2, w1, w4, w5]) | (with_reducible refine gOps_split (fun hq => ?_) (fun hq => ?_) <;> (try simp at hq) <;> simp -implicitDefEqProofs [*, downTo, h2, w1, w4, w5]) | (with_reducible refine condC_dec (fun _ => ?_) (fun _ => ?_) <;> simp -implicitDefEqProofs [*, downTo, h2, w1, w4, w5]) | (with_reducible refine condC_ndec (fun _ => ?_) (fun _ => ?_) <;> simp -implicitDefEqProofs [*, downTo, h2, w1, w4, w5]) | (with_reducible refine condC_and (fun hq => ?_) (fun hq => ?_) <;> (try simp at hq) <;> simp -implicitDefEqProofs [*, downTo, h2, w1, w4, w5]) | (with_reducible refine condC_or (fun hq => ?_) (fun hq => ?_) <;> (try simp at hq) <;> simp -implicitDefEqProofs [*, downTo, h2, w1, w4, w5]) | (with_reducible refine condC_not (fun hq => ?_) (fun hq => ?_) <;> (try simp at hq) <;> simp -implicitDefEqProofs [*, downTo, h2, w1, w4, w5]) | (with_reducible refine condC_split (fun hq => ?_) (fun hq => ?_) <;> (try simp at hq) <;> simp -implicitDefEqProofs [*, downTo, h2, w1, w4, w5]) | (refine appK2_if (by omega) ?_; simp -implicitDefEqProofs [*, downTo, h2, w1, w4, w5]) | (refine pureV_if (by omega) ?_; simp -implicitDefEqProofs [*, downTo, h2, w1, w4, w5]))
    refine count_keep 16 (fun i st => WFBs i st.bs ∧ WFFr x st.fr ∧ st.fr 21 = .int .i64 i) (fun st => WFBs 16 st.bs ∧ WFFr x st.fr) (fun _ => False) c_gimmallaw17_WriteForms_L0.eq_1 ?_ ?_ ?_ ?_ ?_
    · refine ⟨⟨_, _, _, _, _, _, _, _, _, _, _, _, _, .inl ⟨rfl, by simp [WFBox]; repeat' (first | rfl | apply And.intro)⟩⟩, ⟨by simp, by simp, by simp, by simp, by simp, by simp, by simp, by simp⟩, by simp⟩
    · rintro ⟨fr, bs⟩ ⟨hB, hF, h21⟩
      simp only at hB hF h21
      simp -implicitDefEqProofs [h21]
      exact ⟨hB, hF⟩
    · rintro i ⟨fr, bs⟩ hlt ⟨⟨p0, p1, p2, p3, p4, p5, p6, p7, p8, p9, p10, p11, p12, hB⟩, ⟨q1, q8, q10, q12, q14, q16, q19, q20⟩, h21⟩
      simp only at hB q1 q8 q10 q12 q14 q16 q19 q20 h21
      have hlt2 : (i : Int) < 16 := by omega
      have w2 : IntKind.wrap .i64 (2 * (i : Int)) = 2 * i := wrap_in (by omega) (by omega)
      have w3 := wrap_next (n := i) (by omega)
      have i11 := law17_it (2 * (i : Int)) 1
      simp [itW, Item.row] at i11
      have hR := WFRows_succ i
      have hRl := WFRows_len i
      have hRf := WFRows_fits i
      have hwone : IntKind.wrap .i64 1 = 1 := wrap_in (by omega) (by omega)
      have hr14 : List.range 14 = [0, 1, 2, 3, 4, 5, 6, 7, 8, 9, 10, 11, 12, 13] := rfl
      clear hfr f1 f2 f3 a1 a2 a6 b1 b2 b3 b4 b5 b6
      rcases hB with ⟨rfl, rfl⟩ | ⟨hi0, rfl⟩
      · simp at hR i11
        simp -implicitDefEqProofs [h21, q20, WFBox]
        refine callThen_of i11 ?_
        simp -implicitDefEqProofs [downTo, Fits, q20, h21]
        refine ⟨[15], ⟨by simp, by simp, by simp⟩, ?_⟩
        unfold keepSt pickSt
        dsimp only
        exact ⟨⟨_, _, _, _, _, _, _, _, _, _, _, _, _, .inr ⟨by omega, by simp [lentBs, hr14, WFBox, WFRows, itW, Item.row]; repeat' (first | rfl | apply And.intro)⟩⟩, ⟨by simp [q1], by simp [q8], by simp [q10], by simp [q12], by simp [q14], by simp [q16], by simp [q19], by simp [q20, hr14]⟩, by simp [hwone]⟩
      · simp -implicitDefEqProofs [h21, q20, hlt2, w2, WFBox]
        refine callThen_of i11 ?_
        simp -implicitDefEqProofs [downTo, Fits, q20]
        repeat' (first | (with_reducible refine gOps_dec (fun _ => ?_) (fun _ => ?_) <;> simp -implicitDefEqProofs [*, downTo, Fits, q20, hRl]) | (with_reducible refine gOps_ndec (fun _ => ?_) (fun _ => ?_) <;> simp -implicitDefEqProofs [*, downTo, Fits, q20, hRl]) | (with_reducible refine gOps_and (fun hq => ?_) (fun hq => ?_) <;> (try simp at hq) <;> simp -implicitDefEqProofs [*, downTo, Fits, q20, hRl]) | (with_reducible refine gOps_or (fun hq => ?_) (fun hq => ?_) <;> (try simp at hq) <;> simp -implicitDefEqProofs [*, downTo, Fits, q20, hRl]) | (with_reducible refine gOps_not (fun hq => ?_) (fun hq => ?_) <;> (try simp at hq) <;> simp -implicitDefEqProofs [*, downTo, Fits, q20, hRl]) | (with_reducible refine gOps_split (fun hq => ?_) (fun hq => ?_) <;> (try simp at hq) <;> simp -implicitDefEqProofs [*, downTo, Fits, q20, hRl]) | (with_reducible refine condC_dec (fun _ => ?_) (fun _ => ?_) <;> simp -implicitDefEqProofs [*, downTo, Fits, q20, hRl]) | (with_reducible refine condC_ndec (fun _ => ?_) (fun _ => ?_) <;> simp -implicitDefEqProofs [*, downTo, Fits, q20, hRl]) | (with_reducible refine condC_and (fun hq => ?_) (fun hq => ?_) <;> (try simp at hq) <;> simp -implicitDefEqProofs [*, downTo, Fits, q20, hRl]) | (with_reducible refine condC_or (fun hq => ?_) (fun hq => ?_) <;> (try simp at hq) <;> simp -implicitDefEqProofs [*, downTo, Fits, q20, hRl]) | (with_reducible refine condC_not (fun hq => ?_) (fun hq => ?_) <;> (try simp at hq) <;> simp -implicitDefEqProofs [*, downTo, Fits, q20, hRl]) | (with_reducible refine condC_split (fun hq => ?_) (fun hq => ?_) <;> (try simp at hq) <;> simp -implicitDefEqProofs [*, downTo, Fits, q20, hRl]) | (refine appK2_if (by omega) ?_; simp -implicitDefEqProofs [*, downTo, Fits, q20, hRl]) | (refine pureV_if (by omega) ?_; simp -implicitDefEqProofs [*, downTo, Fits, q20, hRl]))
        try simp -implicitDefEqProofs [q20, hRl, hR, w3, h21]
        refine ⟨[14], ⟨by simp, by simp, by simp⟩, ?_⟩
        unfold keepSt pickSt
        dsimp only
        exact ⟨⟨_, _, _, _, _, _, _, _, _, _, _, _, _, .inr ⟨by omega, by simp [lentBs, hr14, WFBox, WFRows_mapR]; repeat' (first | rfl | apply And.intro)⟩⟩, ⟨by simp [q1], by simp [q8], by simp [q10], by simp [q12], by simp [q14], by simp [q16], by simp [q19], by simp [q20, hr14]⟩, by simp [hwone]⟩
    · rintro ⟨fr, bs⟩ ⟨⟨p0, p1, p2, p3, p4, p5, p6, p7, p8, p9, p10, p11, p12, hB⟩, ⟨q1, q8, q10, q12, q14, q16, q19, q20⟩⟩
      simp only at hB q1 q8 q10 q12 q14 q16 q19 q20
      rcases hB with ⟨h0, _⟩ | ⟨_, rfl⟩
      · omega
      · have hWR : WFRows 16 = F.map Item.row := hfr
        rw [hWR]
        clear hWR hfr
        have pm5 := ref_PlaceMay 5
        rw [show place 5 = true by decide] at pm5
        have ht16 : List.take 16 (F.map Item.row) = F.map Item.row := List.take_of_length_le (by simp [hfl])
        have hft : Fits 5 (F.map Item.row) := by intro r hr; obtain ⟨a, _, rfl⟩ := List.mem_map.1 hr; exact ⟨rfl, rfl⟩
        simp -implicitDefEqProofs [q1, q8, q10, q12, q14, q16, q19, q20, w7, w8, hfl, ht16, WFBox]
        repeat' (first | (refine callThen_of (by first | exact f1 | exact den_nrm (f1) | exact den_nrm (by simpa using f1) | exact f2 | exact den_nrm (f2) | exact den_nrm (by simpa using f2) | exact f3 | exact den_nrm (f3) | exact den_nrm (by simpa using f3) | exact law_Num _ | exact pm5) ?_; simp -implicitDefEqProofs [*, q1, q8, q10, q12, q14, q16, q19, q20, w7, w8, hfl, ht16, downTo, reach]) | (with_reducible refine gOps_dec (fun _ => ?_) (fun _ => ?_) <;> simp -implicitDefEqProofs [*, q1, q8, q10, q12, q14, q16, q19, q20, w7, w8, hfl, ht16, downTo, reach]) | (with_reducible refine gOps_ndec (fun _ => ?_) (fun _ => ?_) <;> simp -implicitDefEqProofs [*, q1, q8, q10, q12, q14, q16, q19, q20, w7, w8, hfl, ht16, downTo, reach]) | (with_reducible refine gOps_and (fun hq => ?_) (fun hq => ?_) <;> (try simp at hq) <;> simp -implicitDefEqProofs [*, q1, q8, q10, q12, q14, q16, q19, q20, w7, w8, hfl, ht16, downTo, reach]) | (with_reducible refine gOps_or (fun hq => ?_) (fun hq => ?_) <;> (try simp at hq) <;> simp -implicitDefEqProofs [*, q1, q8, q10, q12, q14, q16, q19, q20, w7, w8, hfl, ht16, downTo, reach]) | (with_reducible refine gOps_not (fun hq => ?_) (fun hq => ?_) <;> (try simp at hq) <;> simp -implicitDefEqProofs [*, q1, q8, q10, q12, q14, q16, q19, q20, w7, w8, hfl, ht16, downTo, reach]) | (with_reducible refine gOps_split (fun hq => ?_) (fun hq => ?_) <;> (try simp at hq) <;> simp -implicitDefEqProofs [*, q1, q8, q10, q12, q14, q16, q19, q20, w7, w8, hfl, ht16, downTo, reach]) | (with_reducible refine condC_dec (fun _ => ?_) (fun _ => ?_) <;> simp -implicitDefEqProofs [*, q1, q8, q10, q12, q14, q16, q19, q20, w7, w8, hfl, ht16, downTo, reach]) | (with_reducible refine condC_ndec (fun _ => ?_) (fun _ => ?_) <;> simp -implicitDefEqProofs [*, q1, q8, q10, q12, q14, q16, q19, q20, w7, w8, hfl, ht16, downTo, reach]) | (with_reducible refine condC_and (fun hq => ?_) (fun hq => ?_) <;> (try simp at hq) <;> simp -implicitDefEqProofs [*, q1, q8, q10, q12, q14, q16, q19, q20, w7, w8, hfl, ht16, downTo, reach]) | (with_reducible refine condC_or (fun hq => ?_) (fun hq => ?_) <;> (try simp at hq) <;> simp -implicitDefEqProofs [*, q1, q8, q10, q12, q14, q16, q19, q20, w7, w8, hfl, ht16, downTo, reach]) | (with_reducible refine condC_not (fun hq => ?_) (fun hq => ?_) <;> (try simp at hq) <;> simp -implicitDefEqProofs [*, q1, q8, q10, q12, q14, q16, q19, q20, w7, w8, hfl, ht16, downTo, reach]) | (with_reducible refine condC_split (fun hq => ?_) (fun hq => ?_) <;> (try simp at hq) <;> simp -implicitDefEqProofs [*, q1, q8, q10, q12, q14, q16, q19, q20, w7, w8, hfl, ht16, downTo, reach]) | (refine appK2_if (by omega) ?_; simp -implicitDefEqProofs [*, q1, q8, q10, q12, q14, q16, q19, q20, w7, w8, hfl, ht16, downTo, reach]) | (refine pureV_if (by omega) ?_; simp -implicitDefEqProofs [*, q1, q8, q10, q12, q14, q16, q19, q20, w7, w8, hfl, ht16, downTo, reach]))
    · rintro ⟨fr, bs⟩ h
      exact h.elim
end Go.AM
/- AM: chapter 17's statements: WriteRow. -/
namespace Go.AM
set_option linter.unusedSimpArgs false
set_option linter.unusedVariables false
set_option maxRecDepth 8000
set_option maxHeartbeats 0
end Go.AM
