/- What the proof of this claim stands on, part 12. -/
import Derived.Test.YtailjedmlkdcmaaAmZ11
/- AM: contracts: items, stores, nodes. -/
namespace Go.AM
set_option linter.unusedSimpArgs false
set_option linter.unusedVariables false
set_option maxRecDepth 8000
set_option maxHeartbeats 0
theorem version_May (c w : Int) : Den PP 93 [.agg [.int .i64 c, .int .i64 w]] [] (.bool (verMay c w)) [] := by
  refine den_of [] [] is_version_May ?_
  simp -implicitDefEqProofs [c_version_May]
  repeat' (first | (refine callThen_of (by first | exact ring_Place _) ?_; simp -implicitDefEqProofs [*, verMay]) | (with_reducible refine gOps_dec (fun _ => ?_) (fun _ => ?_) <;> simp -implicitDefEqProofs [*, verMay]) | (with_reducible refine gOps_ndec (fun _ => ?_) (fun _ => ?_) <;> simp -implicitDefEqProofs [*, verMay]) | (with_reducible refine gOps_and (fun hq => ?_) (fun hq => ?_) <;> (try simp at hq) <;> simp -implicitDefEqProofs [*, verMay]) | (with_reducible refine gOps_or (fun hq => ?_) (fun hq => ?_) <;> (try simp at hq) <;> simp -implicitDefEqProofs [*, verMay]) | (with_reducible refine gOps_not (fun hq => ?_) (fun hq => ?_) <;> (try simp at hq) <;> simp -implicitDefEqProofs [*, verMay]) | (with_reducible refine gOps_split (fun hq => ?_) (fun hq => ?_) <;> (try simp at hq) <;> simp -implicitDefEqProofs [*, verMay]) | (with_reducible refine condC_dec (fun _ => ?_) (fun _ => ?_) <;> simp -implicitDefEqProofs [*, verMay]) | (with_reducible refine condC_ndec (fun _ => ?_) (fun _ => ?_) <;> simp -implicitDefEqProofs [*, verMay]) | (with_reducible refine condC_and (fun hq => ?_) (fun hq => ?_) <;> (try simp at hq) <;> simp -implicitDefEqProofs [*, verMay]) | (with_reducible refine condC_or (fun hq => ?_) (fun hq => ?_) <;> (try simp at hq) <;> simp -implicitDefEqProofs [*, verMay]) | (with_reducible refine condC_not (fun hq => ?_) (fun hq => ?_) <;> (try simp at hq) <;> simp -implicitDefEqProofs [*, verMay]) | (with_reducible refine condC_split (fun hq => ?_) (fun hq => ?_) <;> (try simp at hq) <;> simp -implicitDefEqProofs [*, verMay]) | (refine appK2_if (by omega) ?_; simp -implicitDefEqProofs [*, verMay]) | (refine pureV_if (by omega) ?_; simp -implicitDefEqProofs [*, verMay]))
theorem ref_VersionMay (c w : Int) : Den PP 97 [.agg [.int .i64 c, .int .i64 w]] [] (.bool (verMay c w)) [] := by
  refine den_of [] [] is_gimmalref1_VersionMay ?_
  simp -implicitDefEqProofs [c_gimmalref1_VersionMay]
  repeat' (first | (refine callThen_of (by first | exact ref_PlaceMay _) ?_; simp -implicitDefEqProofs [*, verMay]) | (with_reducible refine gOps_dec (fun _ => ?_) (fun _ => ?_) <;> simp -implicitDefEqProofs [*, verMay]) | (with_reducible refine gOps_ndec (fun _ => ?_) (fun _ => ?_) <;> simp -implicitDefEqProofs [*, verMay]) | (with_reducible refine gOps_and (fun hq => ?_) (fun hq => ?_) <;> (try simp at hq) <;> simp -implicitDefEqProofs [*, verMay]) | (with_reducible refine gOps_or (fun hq => ?_) (fun hq => ?_) <;> (try simp at hq) <;> simp -implicitDefEqProofs [*, verMay]) | (with_reducible refine gOps_not (fun hq => ?_) (fun hq => ?_) <;> (try simp at hq) <;> simp -implicitDefEqProofs [*, verMay]) | (with_reducible refine gOps_split (fun hq => ?_) (fun hq => ?_) <;> (try simp at hq) <;> simp -implicitDefEqProofs [*, verMay]) | (with_reducible refine condC_dec (fun _ => ?_) (fun _ => ?_) <;> simp -implicitDefEqProofs [*, verMay]) | (with_reducible refine condC_ndec (fun _ => ?_) (fun _ => ?_) <;> simp -implicitDefEqProofs [*, verMay]) | (with_reducible refine condC_and (fun hq => ?_) (fun hq => ?_) <;> (try simp at hq) <;> simp -implicitDefEqProofs [*, verMay]) | (with_reducible refine condC_or (fun hq => ?_) (fun hq => ?_) <;> (try simp at hq) <;> simp -implicitDefEqProofs [*, verMay]) | (with_reducible refine condC_not (fun hq => ?_) (fun hq => ?_) <;> (try simp at hq) <;> simp -implicitDefEqProofs [*, verMay]) | (with_reducible refine condC_split (fun hq => ?_) (fun hq => ?_) <;> (try simp at hq) <;> simp -implicitDefEqProofs [*, verMay]) | (refine appK2_if (by omega) ?_; simp -implicitDefEqProofs [*, verMay]) | (refine pureV_if (by omega) ?_; simp -implicitDefEqProofs [*, verMay]))
theorem item_Byte (x : Int) : Den PP 92 [.int .i64 x] [] (.bool (byte x)) [] := by
  refine den_of [] [] is_item_Byte ?_
  simp -implicitDefEqProofs [c_item_Byte]
  repeat' (first | (with_reducible refine gOps_dec (fun _ => ?_) (fun _ => ?_) <;> simp -implicitDefEqProofs [*, byte]) | (with_reducible refine gOps_ndec (fun _ => ?_) (fun _ => ?_) <;> simp -implicitDefEqProofs [*, byte]) | (with_reducible refine gOps_and (fun hq => ?_) (fun hq => ?_) <;> (try simp at hq) <;> simp -implicitDefEqProofs [*, byte]) | (with_reducible refine gOps_or (fun hq => ?_) (fun hq => ?_) <;> (try simp at hq) <;> simp -implicitDefEqProofs [*, byte]) | (with_reducible refine gOps_not (fun hq => ?_) (fun hq => ?_) <;> (try simp at hq) <;> simp -implicitDefEqProofs [*, byte]) | (with_reducible refine gOps_split (fun hq => ?_) (fun hq => ?_) <;> (try simp at hq) <;> simp -implicitDefEqProofs [*, byte]) | (with_reducible refine condC_dec (fun _ => ?_) (fun _ => ?_) <;> simp -implicitDefEqProofs [*, byte]) | (with_reducible refine condC_ndec (fun _ => ?_) (fun _ => ?_) <;> simp -implicitDefEqProofs [*, byte]) | (with_reducible refine condC_and (fun hq => ?_) (fun hq => ?_) <;> (try simp at hq) <;> simp -implicitDefEqProofs [*, byte]) | (with_reducible refine condC_or (fun hq => ?_) (fun hq => ?_) <;> (try simp at hq) <;> simp -implicitDefEqProofs [*, byte]) | (with_reducible refine condC_not (fun hq => ?_) (fun hq => ?_) <;> (try simp at hq) <;> simp -implicitDefEqProofs [*, byte]) | (with_reducible refine condC_split (fun hq => ?_) (fun hq => ?_) <;> (try simp at hq) <;> simp -implicitDefEqProofs [*, byte]) | (refine appK2_if (by omega) ?_; simp -implicitDefEqProofs [*, byte]) | (refine pureV_if (by omega) ?_; simp -implicitDefEqProofs [*, byte]))
theorem ref_byteMay (x : Int) : Den PP 96 [.int .i64 x] [] (.bool (byte x)) [] := by
  refine den_of [] [] is_gimmalref1_byteMay ?_
  simp -implicitDefEqProofs [c_gimmalref1_byteMay]
  repeat' (first | (with_reducible refine gOps_dec (fun _ => ?_) (fun _ => ?_) <;> simp -implicitDefEqProofs [*, byte]) | (with_reducible refine gOps_ndec (fun _ => ?_) (fun _ => ?_) <;> simp -implicitDefEqProofs [*, byte]) | (with_reducible refine gOps_and (fun hq => ?_) (fun hq => ?_) <;> (try simp at hq) <;> simp -implicitDefEqProofs [*, byte]) | (with_reducible refine gOps_or (fun hq => ?_) (fun hq => ?_) <;> (try simp at hq) <;> simp -implicitDefEqProofs [*, byte]) | (with_reducible refine gOps_not (fun hq => ?_) (fun hq => ?_) <;> (try simp at hq) <;> simp -implicitDefEqProofs [*, byte]) | (with_reducible refine gOps_split (fun hq => ?_) (fun hq => ?_) <;> (try simp at hq) <;> simp -implicitDefEqProofs [*, byte]) | (with_reducible refine condC_dec (fun _ => ?_) (fun _ => ?_) <;> simp -implicitDefEqProofs [*, byte]) | (with_reducible refine condC_ndec (fun _ => ?_) (fun _ => ?_) <;> simp -implicitDefEqProofs [*, byte]) | (with_reducible refine condC_and (fun hq => ?_) (fun hq => ?_) <;> (try simp at hq) <;> simp -implicitDefEqProofs [*, byte]) | (with_reducible refine condC_or (fun hq => ?_) (fun hq => ?_) <;> (try simp at hq) <;> simp -implicitDefEqProofs [*, byte]) | (with_reducible refine condC_not (fun hq => ?_) (fun hq => ?_) <;> (try simp at hq) <;> simp -implicitDefEqProofs [*, byte]) | (with_reducible refine condC_split (fun hq => ?_) (fun hq => ?_) <;> (try simp at hq) <;> simp -implicitDefEqProofs [*, byte]) | (refine appK2_if (by omega) ?_; simp -implicitDefEqProofs [*, byte]) | (refine pureV_if (by omega) ?_; simp -implicitDefEqProofs [*, byte]))
  all_goals omega
theorem ref16_byteMay (x : Int) : Den PP 64 [.int .i64 x] [] (.bool (byte x)) [] := by
  refine den_of [] [] is_gimmalref16_byteMay ?_
  simp -implicitDefEqProofs [c_gimmalref16_byteMay]
  repeat' (first | (with_reducible refine gOps_dec (fun _ => ?_) (fun _ => ?_) <;> simp -implicitDefEqProofs [*, byte]) | (with_reducible refine gOps_ndec (fun _ => ?_) (fun _ => ?_) <;> simp -implicitDefEqProofs [*, byte]) | (with_reducible refine gOps_and (fun hq => ?_) (fun hq => ?_) <;> (try simp at hq) <;> simp -implicitDefEqProofs [*, byte]) | (with_reducible refine gOps_or (fun hq => ?_) (fun hq => ?_) <;> (try simp at hq) <;> simp -implicitDefEqProofs [*, byte]) | (with_reducible refine gOps_not (fun hq => ?_) (fun hq => ?_) <;> (try simp at hq) <;> simp -implicitDefEqProofs [*, byte]) | (with_reducible refine gOps_split (fun hq => ?_) (fun hq => ?_) <;> (try simp at hq) <;> simp -implicitDefEqProofs [*, byte]) | (with_reducible refine condC_dec (fun _ => ?_) (fun _ => ?_) <;> simp -implicitDefEqProofs [*, byte]) | (with_reducible refine condC_ndec (fun _ => ?_) (fun _ => ?_) <;> simp -implicitDefEqProofs [*, byte]) | (with_reducible refine condC_and (fun hq => ?_) (fun hq => ?_) <;> (try simp at hq) <;> simp -implicitDefEqProofs [*, byte]) | (with_reducible refine condC_or (fun hq => ?_) (fun hq => ?_) <;> (try simp at hq) <;> simp -implicitDefEqProofs [*, byte]) | (with_reducible refine condC_not (fun hq => ?_) (fun hq => ?_) <;> (try simp at hq) <;> simp -implicitDefEqProofs [*, byte]) | (with_reducible refine condC_split (fun hq => ?_) (fun hq => ?_) <;> (try simp at hq) <;> simp -implicitDefEqProofs [*, byte]) | (refine appK2_if (by omega) ?_; simp -implicitDefEqProofs [*, byte]) | (refine pureV_if (by omega) ?_; simp -implicitDefEqProofs [*, byte]))
  all_goals omega
theorem item_May (i : Item) : Den PP 70 [.agg i.row] [] (.bool (itemMay i)) [] := by
  refine den_of [] [] is_item_May ?_
  simp -implicitDefEqProofs [c_item_May, Item.row]
  repeat' (first | (refine callThen_of (by first | exact item_Byte _ | exact version_May _ _) ?_; simp -implicitDefEqProofs [*, itemMay]) | (with_reducible refine gOps_dec (fun _ => ?_) (fun _ => ?_) <;> simp -implicitDefEqProofs [*, itemMay]) | (with_reducible refine gOps_ndec (fun _ => ?_) (fun _ => ?_) <;> simp -implicitDefEqProofs [*, itemMay]) | (with_reducible refine gOps_and (fun hq => ?_) (fun hq => ?_) <;> (try simp at hq) <;> simp -implicitDefEqProofs [*, itemMay]) | (with_reducible refine gOps_or (fun hq => ?_) (fun hq => ?_) <;> (try simp at hq) <;> simp -implicitDefEqProofs [*, itemMay]) | (with_reducible refine gOps_not (fun hq => ?_) (fun hq => ?_) <;> (try simp at hq) <;> simp -implicitDefEqProofs [*, itemMay]) | (with_reducible refine gOps_split (fun hq => ?_) (fun hq => ?_) <;> (try simp at hq) <;> simp -implicitDefEqProofs [*, itemMay]) | (with_reducible refine condC_dec (fun _ => ?_) (fun _ => ?_) <;> simp -implicitDefEqProofs [*, itemMay]) | (with_reducible refine condC_ndec (fun _ => ?_) (fun _ => ?_) <;> simp -implicitDefEqProofs [*, itemMay]) | (with_reducible refine condC_and (fun hq => ?_) (fun hq => ?_) <;> (try simp at hq) <;> simp -implicitDefEqProofs [*, itemMay]) | (with_reducible refine condC_or (fun hq => ?_) (fun hq => ?_) <;> (try simp at hq) <;> simp -implicitDefEqProofs [*, itemMay]) | (with_reducible refine condC_not (fun hq => ?_) (fun hq => ?_) <;> (try simp at hq) <;> simp -implicitDefEqProofs [*, itemMay]) | (with_reducible refine condC_split (fun hq => ?_) (fun hq => ?_) <;> (try simp at hq) <;> simp -implicitDefEqProofs [*, itemMay]) | (refine appK2_if (by omega) ?_; simp -implicitDefEqProofs [*, itemMay]) | (refine pureV_if (by omega) ?_; simp -implicitDefEqProofs [*, itemMay]))
theorem ref_ItemMay (i : Item) : Den PP 72 [.agg i.row] [] (.bool (itemMay i)) [] := by
  refine den_of [] [] is_gimmalref1_ItemMay ?_
  simp -implicitDefEqProofs [c_gimmalref1_ItemMay, Item.row]
  repeat' (first | (refine callThen_of (by first | exact ref_byteMay _ | exact ref_VersionMay _ _) ?_; simp -implicitDefEqProofs [*, itemMay]) | (with_reducible refine gOps_dec (fun _ => ?_) (fun _ => ?_) <;> simp -implicitDefEqProofs [*, itemMay]) | (with_reducible refine gOps_ndec (fun _ => ?_) (fun _ => ?_) <;> simp -implicitDefEqProofs [*, itemMay]) | (with_reducible refine gOps_and (fun hq => ?_) (fun hq => ?_) <;> (try simp at hq) <;> simp -implicitDefEqProofs [*, itemMay]) | (with_reducible refine gOps_or (fun hq => ?_) (fun hq => ?_) <;> (try simp at hq) <;> simp -implicitDefEqProofs [*, itemMay]) | (with_reducible refine gOps_not (fun hq => ?_) (fun hq => ?_) <;> (try simp at hq) <;> simp -implicitDefEqProofs [*, itemMay]) | (with_reducible refine gOps_split (fun hq => ?_) (fun hq => ?_) <;> (try simp at hq) <;> simp -implicitDefEqProofs [*, itemMay]) | (with_reducible refine condC_dec (fun _ => ?_) (fun _ => ?_) <;> simp -implicitDefEqProofs [*, itemMay]) | (with_reducible refine condC_ndec (fun _ => ?_) (fun _ => ?_) <;> simp -implicitDefEqProofs [*, itemMay]) | (with_reducible refine condC_and (fun hq => ?_) (fun hq => ?_) <;> (try simp at hq) <;> simp -implicitDefEqProofs [*, itemMay]) | (with_reducible refine condC_or (fun hq => ?_) (fun hq => ?_) <;> (try simp at hq) <;> simp -implicitDefEqProofs [*, itemMay]) | (with_reducible refine condC_not (fun hq => ?_) (fun hq => ?_) <;> (try simp at hq) <;> simp -implicitDefEqProofs [*, itemMay]) | (with_reducible refine condC_split (fun hq => ?_) (fun hq => ?_) <;> (try simp at hq) <;> simp -implicitDefEqProofs [*, itemMay]) | (refine appK2_if (by omega) ?_; simp -implicitDefEqProofs [*, itemMay]) | (refine pureV_if (by omega) ?_; simp -implicitDefEqProofs [*, itemMay]))
theorem ref_ItemMay_raw (k c w v : Int) (g : Bool) : Den PP 72 [.agg [.int .i64 k, .int .i64 c, .int .i64 w, .int .i64 v, .bool g]] [] (.bool (itemMay ⟨k, c, w, v, g⟩)) [] := ref_ItemMay ⟨k, c, w, v, g⟩
theorem item_May_raw (k c w v : Int) (g : Bool) : Den PP 70 [.agg [.int .i64 k, .int .i64 c, .int .i64 w, .int .i64 v, .bool g]] [] (.bool (itemMay ⟨k, c, w, v, g⟩)) [] := item_May ⟨k, c, w, v, g⟩
def prevKey (is : List Item) (i : Nat) : Option Int := if i = 0 then none else (is[i - 1]?).map Item.key
theorem store_May (is : List Item) (hl : is.length ≤ cap16) : Den PP 79 [itemsD is] [] (.bool (storeMay is)) [] := by
  obtain ⟨A, hA⟩ : ∃ A, itemsOk none is = A := ⟨_, rfl⟩
  unfold cap16 at hl
  refine den_of [] [] is_store_May ?_
  simp -implicitDefEqProofs [c_store_May, itemsD]
  refine list_rule is (fun i rest => fun ⟨fr, bs⟩ => bs = [] ∧ fr 0 = itemsD is ∧ fr 5 = itemsD is ∧ fr 6 = .int .i64 is.length ∧ fr 7 = .int .i64 i ∧ itemsOk (prevKey is i) rest = A)
    (fun ⟨fr, bs⟩ => bs = [] ∧ fr 0 = itemsD is ∧ A = true) (fun ⟨fr, bs⟩ => fr 2 = .bool false ∧ A = false) c_store_May_L0.eq_1 ?_ ?_ ?_ ?_ ?_
  · exact ⟨rfl, rfl, rfl, rfl, rfl, hA⟩
  · rintro i ⟨fr, bs⟩ hi ⟨rfl, h0, h5, h6, h7, he⟩
    simp -implicitDefEqProofs [h0, h5, h6, h7, hi]
    simpa [itemsOk] using he.symm
  · rintro i a rest ⟨fr, bs⟩ hlt hget hg hd hd2 ⟨rfl, h0, h5, h6, h7, he⟩
    have hlt' : (i : Int) < is.length := by omega
    have hw := wrap_next (n := i) (by omega)
    have c1 := item_May a
    simp [Item.row] at c1
    simp only [itemsOk] at he
    have hp : prevKey is (i + 1) = some a.key := by simp [prevKey, hget]
    cases i with
    | zero =>
      simp [prevKey] at he
      simp -implicitDefEqProofs [h0, h5, h6, h7, hlt, hlt', hget, hg, itemsD, Item.row]
      repeat' (first | (refine callThen_of (by first | exact c1) ?_; simp -implicitDefEqProofs [*, itemsD, Item.row, hw]) | (with_reducible refine gOps_dec (fun _ => ?_) (fun _ => ?_) <;> simp -implicitDefEqProofs [*, itemsD, Item.row, hw]) | (with_reducible refine gOps_ndec (fun _ => ?_) (fun _ => ?_) <;> simp -implicitDefEqProofs [*, itemsD, Item.row, hw]) | (with_reducible refine gOps_and (fun hq => ?_) (fun hq => ?_) <;> (try simp at hq) <;> simp -implicitDefEqProofs [*, itemsD, Item.row, hw]) | (with_reducible refine gOps_or (fun hq => ?_) (fun hq => ?_) <;> (try simp at hq) <;> simp -implicitDefEqProofs [*, itemsD, Item.row, hw]) | (with_reducible refine gOps_not (fun hq => ?_) (fun hq => ?_) <;> (try simp at hq) <;> simp -implicitDefEqProofs [*, itemsD, Item.row, hw]) | (with_reducible refine gOps_split (fun hq => ?_) (fun hq => ?_) <;> (try simp at hq) <;> simp -implicitDefEqProofs [*, itemsD, Item.row, hw]) | (with_reducible refine condC_dec (fun _ => ?_) (fun _ => ?_) <;> simp -implicitDefEqProofs [*, itemsD, Item.row, hw]) | (with_reducible refine condC_ndec (fun _ => ?_) (fun _ => ?_) <;> simp -implicitDefEqProofs [*, itemsD, Item.row, hw]) | (with_reducible refine condC_and (fun hq => ?_) (fun hq => ?_) <;> (try simp at hq) <;> simp -implicitDefEqProofs [*, itemsD, Item.row, hw]) | (with_reducible refine condC_or (fun hq => ?_) (fun hq => ?_) <;> (try simp at hq) <;> simp -implicitDefEqProofs [*, itemsD, Item.row, hw]) | (with_reducible refine condC_not (fun hq => ?_) (fun hq => ?_) <;> (try simp at hq) <;> simp -implicitDefEqProofs [*, itemsD, Item.row, hw]) | (with_reducible refine condC_split (fun hq => ?_) (fun hq => ?_) <;> (try simp at hq) <;> simp -implicitDefEqProofs [*, itemsD, Item.row, hw]) | (refine appK2_if (by omega) ?_; simp -implicitDefEqProofs [*, itemsD, Item.row, hw]) | (refine pureV_if (by omega) ?_; simp -implicitDefEqProofs [*, itemsD, Item.row, hw]))
      all_goals grind
    | succ j =>
      have hj : j < is.length := by omega
      have hj' : (j : Int) < is.length := by omega
      have hjw : IntKind.wrap .i64 (j : Int) = j := wrap_in (by omega) (by omega)
      obtain ⟨b, hb⟩ : ∃ b, is[j] = b := ⟨_, rfl⟩
      have hpj : prevKey is (j + 1) = some b.key := by simp [prevKey, hj, hb]
      rw [hpj] at he
      simp -implicitDefEqProofs [h0, h5, h6, h7, hlt, hlt', hget, hg, itemsD, Item.row]
      repeat' (first | (refine callThen_of (by first | exact c1) ?_; simp -implicitDefEqProofs [*, itemsD, Item.row, hw, hb]) | (with_reducible refine gOps_dec (fun _ => ?_) (fun _ => ?_) <;> simp -implicitDefEqProofs [*, itemsD, Item.row, hw, hb]) | (with_reducible refine gOps_ndec (fun _ => ?_) (fun _ => ?_) <;> simp -implicitDefEqProofs [*, itemsD, Item.row, hw, hb]) | (with_reducible refine gOps_and (fun hq => ?_) (fun hq => ?_) <;> (try simp at hq) <;> simp -implicitDefEqProofs [*, itemsD, Item.row, hw, hb]) | (with_reducible refine gOps_or (fun hq => ?_) (fun hq => ?_) <;> (try simp at hq) <;> simp -implicitDefEqProofs [*, itemsD, Item.row, hw, hb]) | (with_reducible refine gOps_not (fun hq => ?_) (fun hq => ?_) <;> (try simp at hq) <;> simp -implicitDefEqProofs [*, itemsD, Item.row, hw, hb]) | (with_reducible refine gOps_split (fun hq => ?_) (fun hq => ?_) <;> (try simp at hq) <;> simp -implicitDefEqProofs [*, itemsD, Item.row, hw, hb]) | (with_reducible refine condC_dec (fun _ => ?_) (fun _ => ?_) <;> simp -implicitDefEqProofs [*, itemsD, Item.row, hw, hb]) | (with_reducible refine condC_ndec (fun _ => ?_) (fun _ => ?_) <;> simp -implicitDefEqProofs [*, itemsD, Item.row, hw, hb]) | (with_reducible refine condC_and (fun hq => ?_) (fun hq => ?_) <;> (try simp at hq) <;> simp -implicitDefEqProofs [*, itemsD, Item.row, hw, hb]) | (with_reducible refine condC_or (fun hq => ?_) (fun hq => ?_) <;> (try simp at hq) <;> simp -implicitDefEqProofs [*, itemsD, Item.row, hw, hb]) | (with_reducible refine condC_not (fun hq => ?_) (fun hq => ?_) <;> (try simp at hq) <;> simp -implicitDefEqProofs [*, itemsD, Item.row, hw, hb]) | (with_reducible refine condC_split (fun hq => ?_) (fun hq => ?_) <;> (try simp at hq) <;> simp -implicitDefEqProofs [*, itemsD, Item.row, hw, hb]) | (refine appK2_if (by omega) ?_; simp -implicitDefEqProofs [*, itemsD, Item.row, hw, hb]) | (refine pureV_if (by omega) ?_; simp -implicitDefEqProofs [*, itemsD, Item.row, hw, hb]))
      all_goals grind
  · rintro ⟨fr, bs⟩ ⟨rfl, h0, h1⟩
    simp -implicitDefEqProofs [h0, itemsD, storeMay, hA, h1]
    omega
  · rintro ⟨fr, bs⟩ h
    simp -implicitDefEqProofs [h.1, h.2, storeMay, hA]
theorem ref_StoreMay (is : List Item) (hl : is.length ≤ cap16) : Den PP 63 [itemsD is] [] (.bool (storeMay is)) [] := by
  obtain ⟨A, hA⟩ : ∃ A, itemsOk none is = A := ⟨_, rfl⟩
  unfold cap16 at hl
  refine den_of [] [] is_gimmalref1_StoreMay ?_
  simp -implicitDefEqProofs [c_gimmalref1_StoreMay, itemsD]
  refine list_rule is (fun i rest => fun ⟨fr, bs⟩ => bs = [] ∧ fr 0 = itemsD is ∧ fr 3 = .int .i64 i ∧ itemsOk (prevKey is i) rest = A)
    (fun ⟨fr, bs⟩ => bs = [] ∧ fr 0 = itemsD is ∧ A = true) (fun ⟨fr, bs⟩ => fr 2 = .bool false ∧ A = false) c_gimmalref1_StoreMay_L0.eq_1 ?_ ?_ ?_ ?_ ?_
  · exact ⟨rfl, rfl, rfl, hA⟩
  · rintro i ⟨fr, bs⟩ hi ⟨rfl, h0, h3, he⟩
    simp -implicitDefEqProofs [h0, h3, hi, itemsD]
    simpa [itemsOk] using he.symm
  · rintro i a rest ⟨fr, bs⟩ hlt hget hg hd hd2 ⟨rfl, h0, h3, he⟩
    have hlt' : (i : Int) < is.length := by omega
    have hw := wrap_next (n := i) (by omega)
    have c1 := ref_ItemMay a
    simp [Item.row] at c1
    simp only [itemsOk] at he
    have hp : prevKey is (i + 1) = some a.key := by simp [prevKey, hget]
    cases i with
    | zero =>
      simp [prevKey] at he
      simp -implicitDefEqProofs [h0, h3, hlt, hlt', hget, hg, itemsD, Item.row]
      repeat' (first | (refine callThen_of (by first | exact c1) ?_; simp -implicitDefEqProofs [*, itemsD, Item.row, hw]) | (with_reducible refine gOps_dec (fun _ => ?_) (fun _ => ?_) <;> simp -implicitDefEqProofs [*, itemsD, Item.row, hw]) | (with_reducible refine gOps_ndec (fun _ => ?_) (fun _ => ?_) <;> simp -implicitDefEqProofs [*, itemsD, Item.row, hw]) | (with_reducible refine gOps_and (fun hq => ?_) (fun hq => ?_) <;> (try simp at hq) <;> simp -implicitDefEqProofs [*, itemsD, Item.row, hw]) | (with_reducible refine gOps_or (fun hq => ?_) (fun hq => ?_) <;> (try simp at hq) <;> simp -implicitDefEqProofs [*, itemsD, Item.row, hw]) | (with_reducible refine gOps_not (fun hq => ?_) (fun hq => ?_) <;> (try simp at hq) <;> simp -implicitDefEqProofs [*, itemsD, Item.row, hw]) | (with_reducible refine gOps_split (fun hq => ?_) (fun hq => ?_) <;> (try simp at hq) <;> simp -implicitDefEqProofs [*, itemsD, Item.row, hw]) | (with_reducible refine condC_dec (fun _ => ?_) (fun _ => ?_) <;> simp -implicitDefEqProofs [*, itemsD, Item.row, hw]) | (with_reducible refine condC_ndec (fun _ => ?_) (fun _ => ?_) <;> simp -implicitDefEqProofs [*, itemsD, Item.row, hw]) | (with_reducible refine condC_and (fun hq => ?_) (fun hq => ?_) <;> (try simp at hq) <;> simp -implicitDefEqProofs [*, itemsD, Item.row, hw]) | (with_reducible refine condC_or (fun hq => ?_) (fun hq => ?_) <;> (try simp at hq) <;> simp -implicitDefEqProofs [*, itemsD, Item.row, hw]) | (with_reducible refine condC_not (fun hq => ?_) (fun hq => ?_) <;> (try simp at hq) <;> simp -implicitDefEqProofs [*, itemsD, Item.row, hw]) | (with_reducible refine condC_split (fun hq => ?_) (fun hq => ?_) <;> (try simp at hq) <;> simp -implicitDefEqProofs [*, itemsD, Item.row, hw]) | (refine appK2_if (by omega) ?_; simp -implicitDefEqProofs [*, itemsD, Item.row, hw]) | (refine pureV_if (by omega) ?_; simp -implicitDefEqProofs [*, itemsD, Item.row, hw]))
      all_goals grind
    | succ j =>
      have hj : j < is.length := by omega
      have hj' : (j : Int) < is.length := by omega
      have hjw : IntKind.wrap .i64 (j : Int) = j := wrap_in (by omega) (by omega)
      obtain ⟨b, hb⟩ : ∃ b, is[j] = b := ⟨_, rfl⟩
      have hpj : prevKey is (j + 1) = some b.key := by simp [prevKey, hj, hb]
      rw [hpj] at he
      simp -implicitDefEqProofs [h0, h3, hlt, hlt', hget, hg, itemsD, Item.row]
      repeat' (first | (refine callThen_of (by first | exact c1) ?_; simp -implicitDefEqProofs [*, itemsD, Item.row, hw, hb]) | (with_reducible refine gOps_dec (fun _ => ?_) (fun _ => ?_) <;> simp -implicitDefEqProofs [*, itemsD, Item.row, hw, hb]) | (with_reducible refine gOps_ndec (fun _ => ?_) (fun _ => ?_) <;> simp -implicitDefEqProofs [*, itemsD, Item.row, hw, hb]) | (with_reducible refine gOps_and (fun hq => ?_) (fun hq => ?_) <;> (try simp at hq) <;> simp -implicitDefEqProofs [*, itemsD, Item.row, hw, hb]) | (with_reducible refine gOps_or (fun hq => ?_) (fun hq => ?_) <;> (try simp at hq) <;> simp -implicitDefEqProofs [*, itemsD, Item.row, hw, hb]) | (with_reducible refine gOps_not (fun hq => ?_) (fun hq => ?_) <;> (try simp at hq) <;> simp -implicitDefEqProofs [*, itemsD, Item.row, hw, hb]) | (with_reducible refine gOps_split (fun hq => ?_) (fun hq => ?_) <;> (try simp at hq) <;> simp -implicitDefEqProofs [*, itemsD, Item.row, hw, hb]) | (with_reducible refine condC_dec (fun _ => ?_) (fun _ => ?_) <;> simp -implicitDefEqProofs [*, itemsD, Item.row, hw, hb]) | (with_reducible refine condC_ndec (fun _ => ?_) (fun _ => ?_) <;> simp -implicitDefEqProofs [*, itemsD, Item.row, hw, hb]) | (with_reducible refine condC_and (fun hq => ?_) (fun hq => ?_) <;> (try simp at hq) <;> simp -implicitDefEqProofs [*, itemsD, Item.row, hw, hb]) | (with_reducible refine condC_or (fun hq => ?_) (fun hq => ?_) <;> (try simp at hq) <;> simp -implicitDefEqProofs [*, itemsD, Item.row, hw, hb]) | (with_reducible refine condC_not (fun hq => ?_) (fun hq => ?_) <;> (try simp at hq) <;> simp -implicitDefEqProofs [*, itemsD, Item.row, hw, hb]) | (with_reducible refine condC_split (fun hq => ?_) (fun hq => ?_) <;> (try simp at hq) <;> simp -implicitDefEqProofs [*, itemsD, Item.row, hw, hb]) | (refine appK2_if (by omega) ?_; simp -implicitDefEqProofs [*, itemsD, Item.row, hw, hb]) | (refine pureV_if (by omega) ?_; simp -implicitDefEqProofs [*, itemsD, Item.row, hw, hb]))
      all_goals grind
  · rintro ⟨fr, bs⟩ ⟨rfl, h0, h1⟩
    simp -implicitDefEqProofs [h0, itemsD, storeMay, hA, h1]
    omega
  · rintro ⟨fr, bs⟩ h
    simp -implicitDefEqProofs [h.1, h.2, storeMay, hA]
theorem node_odd (t : Told) : Den PP 99 [.agg t.row] [] (.bool (toldOdd t)) [] := by
  refine den_of [] [] is_node_odd ?_
  simp -implicitDefEqProofs [c_node_odd, Told.row]
  repeat' (first | (refine callThen_of (by first | exact item_Byte _) ?_; simp -implicitDefEqProofs [*, toldOdd]) | (with_reducible refine gOps_dec (fun _ => ?_) (fun _ => ?_) <;> simp -implicitDefEqProofs [*, toldOdd]) | (with_reducible refine gOps_ndec (fun _ => ?_) (fun _ => ?_) <;> simp -implicitDefEqProofs [*, toldOdd]) | (with_reducible refine gOps_and (fun hq => ?_) (fun hq => ?_) <;> (try simp at hq) <;> simp -implicitDefEqProofs [*, toldOdd]) | (with_reducible refine gOps_or (fun hq => ?_) (fun hq => ?_) <;> (try simp at hq) <;> simp -implicitDefEqProofs [*, toldOdd]) | (with_reducible refine gOps_not (fun hq => ?_) (fun hq => ?_) <;> (try simp at hq) <;> simp -implicitDefEqProofs [*, toldOdd]) | (with_reducible refine gOps_split (fun hq => ?_) (fun hq => ?_) <;> (try simp at hq) <;> simp -implicitDefEqProofs [*, toldOdd]) | (with_reducible refine condC_dec (fun _ => ?_) (fun _ => ?_) <;> simp -implicitDefEqProofs [*, toldOdd]) | (with_reducible refine condC_ndec (fun _ => ?_) (fun _ => ?_) <;> simp -implicitDefEqProofs [*, toldOdd]) | (with_reducible refine condC_and (fun hq => ?_) (fun hq => ?_) <;> (try simp at hq) <;> simp -implicitDefEqProofs [*, toldOdd]) | (with_reducible refine condC_or (fun hq => ?_) (fun hq => ?_) <;> (try simp at hq) <;> simp -implicitDefEqProofs [*, toldOdd]) | (with_reducible refine condC_not (fun hq => ?_) (fun hq => ?_) <;> (try simp at hq) <;> simp -implicitDefEqProofs [*, toldOdd]) | (with_reducible refine condC_split (fun hq => ?_) (fun hq => ?_) <;> (try simp at hq) <;> simp -implicitDefEqProofs [*, toldOdd]) | (refine appK2_if (by omega) ?_; simp -implicitDefEqProofs [*, toldOdd]) | (refine pureV_if (by omega) ?_; simp -implicitDefEqProofs [*, toldOdd]))
end Go.AM
/- AM: contracts: nodes, sharing. -/
namespace Go.AM
set_option linter.unusedSimpArgs false
set_option linter.unusedVariables false
set_option maxRecDepth 8000
set_option maxHeartbeats 0
theorem slices_IndexFunc_Told (xs : List Told) (hl : xs.length ≤ cap) : Den PP 116 [toldsD xs, .fn 99 [] []] [] (.int .i64 (gIdx toldOdd 0 xs)) [] := by
  obtain ⟨A, hA⟩ : ∃ A, gIdx toldOdd 0 xs = A := ⟨_, rfl⟩
  unfold cap at hl
  refine den_of [] [] is_slices_IndexFunc_api_Told_api_Told ?_
  simp -implicitDefEqProofs [c_slices_IndexFunc_api_Told_api_Told, toldsD, hA]
  refine list_rule xs (fun i rest => fun ⟨fr, bs⟩ => bs = [] ∧ fr 0 = toldsD xs ∧ fr 1 = .fn 99 [] [] ∧ fr 7 = .int .i64 xs.length ∧ fr 8 = .int .i64 i ∧ gIdx toldOdd i rest = A)
    (fun ⟨fr, bs⟩ => bs = [] ∧ A = -1) (fun ⟨fr, bs⟩ => fr 4 = .int .i64 A) c_slices_IndexFunc_api_Told_api_Told_L0.eq_1 ?_ ?_ ?_ ?_ ?_
  · exact ⟨rfl, rfl, rfl, rfl, rfl, hA⟩
  · rintro i ⟨fr, bs⟩ hi ⟨rfl, h0, h1, h7, h8, he⟩
    simp -implicitDefEqProofs [h0, h1, h7, h8, hi]
    simpa [gIdx] using he.symm
  · rintro i a rest ⟨fr, bs⟩ hlt hget hg hd hd2 ⟨rfl, h0, h1, h7, h8, he⟩
    have hlt' : (i : Int) < xs.length := by omega
    have hw := wrap_next (n := i) (by omega)
    have c1 := node_odd a
    simp [Told.row] at c1
    simp only [gIdx] at he
    simp -implicitDefEqProofs [h0, h1, h7, h8, hlt, hlt', hget, hg, toldsD, Told.row]
    repeat' (first | (refine callThen_of (by first | exact c1) ?_; simp -implicitDefEqProofs [*, toldsD, Told.row, hw]) | (with_reducible refine gOps_dec (fun _ => ?_) (fun _ => ?_) <;> simp -implicitDefEqProofs [*, toldsD, Told.row, hw]) | (with_reducible refine gOps_ndec (fun _ => ?_) (fun _ => ?_) <;> simp -implicitDefEqProofs [*, toldsD, Told.row, hw]) | (with_reducible refine gOps_and (fun hq => ?_) (fun hq => ?_) <;> (try simp at hq) <;> simp -implicitDefEqProofs [*, toldsD, Told.row, hw]) | (with_reducible refine gOps_or (fun hq => ?_) (fun hq => ?_) <;> (try simp at hq) <;> simp -implicitDefEqProofs [*, toldsD, Told.row, hw]) | (with_reducible refine gOps_not (fun hq => ?_) (fun hq => ?_) <;> (try simp at hq) <;> simp -implicitDefEqProofs [*, toldsD, Told.row, hw]) | (with_reducible refine gOps_split (fun hq => ?_) (fun hq => ?_) <;> (try simp at hq) <;> simp -implicitDefEqProofs [*, toldsD, Told.row, hw]) | (with_reducible refine condC_dec (fun _ => ?_) (fun _ => ?_) <;> simp -implicitDefEqProofs [*, toldsD, Told.row, hw]) | (with_reducible refine condC_ndec (fun _ => ?_) (fun _ => ?_) <;> simp -implicitDefEqProofs [*, toldsD, Told.row, hw]) | (with_reducible refine condC_and (fun hq => ?_) (fun hq => ?_) <;> (try simp at hq) <;> simp -implicitDefEqProofs [*, toldsD, Told.row, hw]) | (with_reducible refine condC_or (fun hq => ?_) (fun hq => ?_) <;> (try simp at hq) <;> simp -implicitDefEqProofs [*, toldsD, Told.row, hw]) | (with_reducible refine condC_not (fun hq => ?_) (fun hq => ?_) <;> (try simp at hq) <;> simp -implicitDefEqProofs [*, toldsD, Told.row, hw]) | (with_reducible refine condC_split (fun hq => ?_) (fun hq => ?_) <;> (try simp at hq) <;> simp -implicitDefEqProofs [*, toldsD, Told.row, hw]) | (refine appK2_if (by omega) ?_; simp -implicitDefEqProofs [*, toldsD, Told.row, hw]) | (refine pureV_if (by omega) ?_; simp -implicitDefEqProofs [*, toldsD, Told.row, hw]))
    all_goals grind
  · rintro ⟨fr, bs⟩ ⟨rfl, h1⟩
    simp -implicitDefEqProofs [h1]
  · rintro ⟨fr, bs⟩ h
    simp -implicitDefEqProofs [h]
theorem slices_ContainsFunc_Told (xs : List Told) (hl : xs.length ≤ cap) : Den PP 98 [toldsD xs, .fn 99 [] []] [] (.bool (xs.any toldOdd)) [] := by
  have c1 := slices_IndexFunc_Told xs hl
  have h1 := gIdx_any toldOdd xs 0
  obtain ⟨A, hA⟩ : ∃ A, xs.any toldOdd = A := ⟨_, rfl⟩
  rw [hA] at h1
  simp [toldsD] at c1
  refine den_of [] [] is_slices_ContainsFunc_api_Told_api_Told ?_
  simp -implicitDefEqProofs [c_slices_ContainsFunc_api_Told_api_Told, toldsD]
  refine callThen_of c1 ?_
  simp -implicitDefEqProofs [h1, hA]
theorem node_May (x : Node) (hs : x.small) : Den PP 75 [nodeD x] [] (.bool (nodeMay x)) [] := by
  obtain ⟨h1, h2, h3⟩ := hs
  have c1 := view_May x.view h1
  have c2 := store_May x.items (by unfold cap16; omega)
  have c3 := slices_ContainsFunc_Told x.log (by unfold cap; omega)
  obtain ⟨A, hA⟩ : ∃ A, x.log.any toldOdd = A := ⟨_, rfl⟩
  rw [hA] at c3
  simp [viewD, View.cells, peersD, intsD, itemsD, toldsD] at c1 c2 c3
  obtain ⟨hp, hq⟩ := h1
  unfold cap16 at hp
  unfold cap at hq
  have w1 : IntKind.wrap .i64 ((x.view.peers.length : Int) + x.view.passive.length) = x.view.peers.length + x.view.passive.length := wrap_in (by omega) (by omega)
  have w2 : IntKind.wrap .i64 ((x.view.peers.length : Int) + x.view.passive.length + x.items.length) = x.view.peers.length + x.view.passive.length + x.items.length := wrap_in (by omega) (by omega)
  have w3 : IntKind.wrap .i64 ((x.view.peers.length : Int) + x.view.passive.length + x.items.length + x.log.length) = x.view.peers.length + x.view.passive.length + x.items.length + x.log.length := wrap_in (by omega) (by omega)
  refine den_of [] [] is_node_May ?_
  simp -implicitDefEqProofs [c_node_May, nodeD, Node.cells, peersD, intsD, itemsD, toldsD]
  repeat' (first | (refine callThen_of (by first | exact c1 | exact c2 | exact c3) ?_; simp -implicitDefEqProofs [*, w1, w2, w3]) | (with_reducible refine gOps_dec (fun _ => ?_) (fun _ => ?_) <;> simp -implicitDefEqProofs [*, w1, w2, w3]) | (with_reducible refine gOps_ndec (fun _ => ?_) (fun _ => ?_) <;> simp -implicitDefEqProofs [*, w1, w2, w3]) | (with_reducible refine gOps_and (fun hq => ?_) (fun hq => ?_) <;> (try simp at hq) <;> simp -implicitDefEqProofs [*, w1, w2, w3]) | (with_reducible refine gOps_or (fun hq => ?_) (fun hq => ?_) <;> (try simp at hq) <;> simp -implicitDefEqProofs [*, w1, w2, w3]) | (with_reducible refine gOps_not (fun hq => ?_) (fun hq => ?_) <;> (try simp at hq) <;> simp -implicitDefEqProofs [*, w1, w2, w3]) | (with_reducible refine gOps_split (fun hq => ?_) (fun hq => ?_) <;> (try simp at hq) <;> simp -implicitDefEqProofs [*, w1, w2, w3]) | (with_reducible refine condC_dec (fun _ => ?_) (fun _ => ?_) <;> simp -implicitDefEqProofs [*, w1, w2, w3]) | (with_reducible refine condC_ndec (fun _ => ?_) (fun _ => ?_) <;> simp -implicitDefEqProofs [*, w1, w2, w3]) | (with_reducible refine condC_and (fun hq => ?_) (fun hq => ?_) <;> (try simp at hq) <;> simp -implicitDefEqProofs [*, w1, w2, w3]) | (with_reducible refine condC_or (fun hq => ?_) (fun hq => ?_) <;> (try simp at hq) <;> simp -implicitDefEqProofs [*, w1, w2, w3]) | (with_reducible refine condC_not (fun hq => ?_) (fun hq => ?_) <;> (try simp at hq) <;> simp -implicitDefEqProofs [*, w1, w2, w3]) | (with_reducible refine condC_split (fun hq => ?_) (fun hq => ?_) <;> (try simp at hq) <;> simp -implicitDefEqProofs [*, w1, w2, w3]) | (refine appK2_if (by omega) ?_; simp -implicitDefEqProofs [*, w1, w2, w3]) | (refine pureV_if (by omega) ?_; simp -implicitDefEqProofs [*, w1, w2, w3]))
  all_goals simp only [nodeMay, emptyN, hA]
  all_goals grind
theorem node_Up (x : Node) (hs : x.small) : Den PP 46 [nodeD x] [] (.bool (nodeUp x)) [] := by
  have c1 := node_May x hs
  simp only [nodeD, Node.cells, peersD, intsD, itemsD, toldsD] at c1
  refine den_of [] [] is_node_Up ?_
  cases hu : x.up
  all_goals
    rw [hu] at c1
    simp -implicitDefEqProofs [c_node_Up, nodeD, Node.cells, peersD, intsD, itemsD, toldsD, hu]
    repeat' (first | (refine callThen_of (by first | exact c1) ?_; simp -implicitDefEqProofs [*]) | (with_reducible refine gOps_dec (fun _ => ?_) (fun _ => ?_) <;> simp -implicitDefEqProofs [*]) | (with_reducible refine gOps_ndec (fun _ => ?_) (fun _ => ?_) <;> simp -implicitDefEqProofs [*]) | (with_reducible refine gOps_and (fun hq => ?_) (fun hq => ?_) <;> (try simp at hq) <;> simp -implicitDefEqProofs [*]) | (with_reducible refine gOps_or (fun hq => ?_) (fun hq => ?_) <;> (try simp at hq) <;> simp -implicitDefEqProofs [*]) | (with_reducible refine gOps_not (fun hq => ?_) (fun hq => ?_) <;> (try simp at hq) <;> simp -implicitDefEqProofs [*]) | (with_reducible refine gOps_split (fun hq => ?_) (fun hq => ?_) <;> (try simp at hq) <;> simp -implicitDefEqProofs [*]) | (with_reducible refine condC_dec (fun _ => ?_) (fun _ => ?_) <;> simp -implicitDefEqProofs [*]) | (with_reducible refine condC_ndec (fun _ => ?_) (fun _ => ?_) <;> simp -implicitDefEqProofs [*]) | (with_reducible refine condC_and (fun hq => ?_) (fun hq => ?_) <;> (try simp at hq) <;> simp -implicitDefEqProofs [*]) | (with_reducible refine condC_or (fun hq => ?_) (fun hq => ?_) <;> (try simp at hq) <;> simp -implicitDefEqProofs [*]) | (with_reducible refine condC_not (fun hq => ?_) (fun hq => ?_) <;> (try simp at hq) <;> simp -implicitDefEqProofs [*]) | (with_reducible refine condC_split (fun hq => ?_) (fun hq => ?_) <;> (try simp at hq) <;> simp -implicitDefEqProofs [*]) | (refine appK2_if (by omega) ?_; simp -implicitDefEqProofs [*]) | (refine pureV_if (by omega) ?_; simp -implicitDefEqProofs [*]))
    all_goals simp [nodeUp, hu]
end Go.AM
/- AM: contracts: what the statements' own helpers do with items, messages, nodes. -/
namespace Go.AM
set_option linter.unusedSimpArgs false
set_option linter.unusedVariables false
set_option maxRecDepth 8000
set_option maxHeartbeats 0
theorem law_SameItems (xs ys : List Item) (hl : xs.length ≤ cap) : Den PP 33 [itemsD xs, itemsD ys] [] (.bool (decide (xs = ys))) [] := by
  refine den_of [] [] is_gimmallaw0_SameItems ?_
  simp -implicitDefEqProofs [c_gimmallaw0_SameItems, itemsD]
  refine condC_split (fun h => ?_) (fun h => ?_)
  · simp -implicitDefEqProofs
    grind
  have hlen : xs.length = ys.length := by simp at h; omega
  simp -implicitDefEqProofs
  refine list_rule xs (fun i rest => fun ⟨fr, bs⟩ => bs = [] ∧ fr 0 = .sl (xs.map Item.row) xs.length ∧ fr 1 = .sl (ys.map Item.row) ys.length ∧ fr 5 = .int .i64 i ∧ (rest = ys.drop i ↔ xs = ys))
    (fun ⟨fr, bs⟩ => bs = [] ∧ xs = ys) (fun ⟨fr, bs⟩ => fr 4 = .bool false ∧ ¬ xs = ys) c_gimmallaw0_SameItems_L0.eq_1 ?_ ?_ ?_ ?_ ?_
  · exact ⟨rfl, rfl, rfl, rfl, by simp⟩
  · rintro i ⟨fr, bs⟩ hi ⟨rfl, h0, h1, h5, he⟩
    simp -implicitDefEqProofs [*]
    grind
  · rintro i a rest ⟨fr, bs⟩ hlt hget hg hd hd2 ⟨rfl, h0, h1, h5, he⟩
    have hlt' : (i : Int) < xs.length := by omega
    have hlt2 : i < ys.length := by omega
    have hlt3 : (i : Int) < ys.length := by omega
    have hw := wrap_next (n := i) (by unfold cap at hl; omega)
    rw [List.drop_eq_getElem_cons hlt2] at he
    generalize hy : ys[i] = b at he
    simp -implicitDefEqProofs [h0, h1, h5, hlt, hlt', hlt2, hlt3, hget, hg, hy, Item.row, EQS]
    repeat' (first | (with_reducible refine gOps_dec (fun _ => ?_) (fun _ => ?_) <;> simp -implicitDefEqProofs [*, EQS, hw, Item.row]) | (with_reducible refine gOps_ndec (fun _ => ?_) (fun _ => ?_) <;> simp -implicitDefEqProofs [*, EQS, hw, Item.row]) | (with_reducible refine gOps_and (fun hq => ?_) (fun hq => ?_) <;> (try simp at hq) <;> simp -implicitDefEqProofs [*, EQS, hw, Item.row]) | (with_reducible refine gOps_or (fun hq => ?_) (fun hq => ?_) <;> (try simp at hq) <;> simp -implicitDefEqProofs [*, EQS, hw, Item.row]) | (with_reducible refine gOps_not (fun hq => ?_) (fun hq => ?_) <;> (try simp at hq) <;> simp -implicitDefEqProofs [*, EQS, hw, Item.row]) | (with_reducible refine gOps_split (fun hq => ?_) (fun hq => ?_) <;> (try simp at hq) <;> simp -implicitDefEqProofs [*, EQS, hw, Item.row]) | (with_reducible refine condC_dec (fun _ => ?_) (fun _ => ?_) <;> simp -implicitDefEqProofs [*, EQS, hw, Item.row]) | (with_reducible refine condC_ndec (fun _ => ?_) (fun _ => ?_) <;> simp -implicitDefEqProofs [*, EQS, hw, Item.row]) | (with_reducible refine condC_and (fun hq => ?_) (fun hq => ?_) <;> (try simp at hq) <;> simp -implicitDefEqProofs [*, EQS, hw, Item.row]) | (with_reducible refine condC_or (fun hq => ?_) (fun hq => ?_) <;> (try simp at hq) <;> simp -implicitDefEqProofs [*, EQS, hw, Item.row]) | (with_reducible refine condC_not (fun hq => ?_) (fun hq => ?_) <;> (try simp at hq) <;> simp -implicitDefEqProofs [*, EQS, hw, Item.row]) | (with_reducible refine condC_split (fun hq => ?_) (fun hq => ?_) <;> (try simp at hq) <;> simp -implicitDefEqProofs [*, EQS, hw, Item.row]) | (refine appK2_if (by omega) ?_; simp -implicitDefEqProofs [*, EQS, hw, Item.row]) | (refine pureV_if (by omega) ?_; simp -implicitDefEqProofs [*, EQS, hw, Item.row]))
    all_goals (obtain ⟨_, _, _, _, _⟩ := a; obtain ⟨_, _, _, _, _⟩ := b; grind)
  · rintro ⟨fr, bs⟩ ⟨rfl, h6⟩
    simp -implicitDefEqProofs [*]
  · rintro ⟨fr, bs⟩ h
    simp -implicitDefEqProofs [h.1, h.2]
theorem law_SameTolds (xs ys : List Told) (hl : xs.length ≤ cap) : Den PP 36 [toldsD xs, toldsD ys] [] (.bool (decide (xs = ys))) [] := by
  refine den_of [] [] is_gimmallaw0_SameTolds ?_
  simp -implicitDefEqProofs [c_gimmallaw0_SameTolds, toldsD]
  refine condC_split (fun h => ?_) (fun h => ?_)
  · simp -implicitDefEqProofs
    grind
  have hlen : xs.length = ys.length := by simp at h; omega
  simp -implicitDefEqProofs
  refine list_rule xs (fun i rest => fun ⟨fr, bs⟩ => bs = [] ∧ fr 0 = .sl (xs.map Told.row) xs.length ∧ fr 1 = .sl (ys.map Told.row) ys.length ∧ fr 5 = .int .i64 i ∧ (rest = ys.drop i ↔ xs = ys))
    (fun ⟨fr, bs⟩ => bs = [] ∧ xs = ys) (fun ⟨fr, bs⟩ => fr 4 = .bool false ∧ ¬ xs = ys) c_gimmallaw0_SameTolds_L0.eq_1 ?_ ?_ ?_ ?_ ?_
  · exact ⟨rfl, rfl, rfl, rfl, by simp⟩
  · rintro i ⟨fr, bs⟩ hi ⟨rfl, h0, h1, h5, he⟩
    simp -implicitDefEqProofs [*]
    grind
  · rintro i a rest ⟨fr, bs⟩ hlt hget hg hd hd2 ⟨rfl, h0, h1, h5, he⟩
    have hlt' : (i : Int) < xs.length := by omega
    have hlt2 : i < ys.length := by omega
    have hlt3 : (i : Int) < ys.length := by omega
    have hw := wrap_next (n := i) (by unfold cap at hl; omega)
    rw [List.drop_eq_getElem_cons hlt2] at he
    generalize hy : ys[i] = b at he
    simp -implicitDefEqProofs [h0, h1, h5, hlt, hlt', hlt2, hlt3, hget, hg, hy, Told.row, EQS]
    repeat' (first | (with_reducible refine gOps_dec (fun _ => ?_) (fun _ => ?_) <;> simp -implicitDefEqProofs [*, EQS, hw, Told.row]) | (with_reducible refine gOps_ndec (fun _ => ?_) (fun _ => ?_) <;> simp -implicitDefEqProofs [*, EQS, hw, Told.row]) | (with_reducible refine gOps_and (fun hq => ?_) (fun hq => ?_) <;> (try simp at hq) <;> simp -implicitDefEqProofs [*, EQS, hw, Told.row]) | (with_reducible refine gOps_or (fun hq => ?_) (fun hq => ?_) <;> (try simp at hq) <;> simp -implicitDefEqProofs [*, EQS, hw, Told.row]) | (with_reducible refine gOps_not (fun hq => ?_) (fun hq => ?_) <;> (try simp at hq) <;> simp -implicitDefEqProofs [*, EQS, hw, Told.row]) | (with_reducible refine gOps_split (fun hq => ?_) (fun hq => ?_) <;> (try simp at hq) <;> simp -implicitDefEqProofs [*, EQS, hw, Told.row]) | (with_reducible refine condC_dec (fun _ => ?_) (fun _ => ?_) <;> simp -implicitDefEqProofs [*, EQS, hw, Told.row]) | (with_reducible refine condC_ndec (fun _ => ?_) (fun _ => ?_) <;> simp -implicitDefEqProofs [*, EQS, hw, Told.row]) | (with_reducible refine condC_and (fun hq => ?_) (fun hq => ?_) <;> (try simp at hq) <;> simp -implicitDefEqProofs [*, EQS, hw, Told.row]) | (with_reducible refine condC_or (fun hq => ?_) (fun hq => ?_) <;> (try simp at hq) <;> simp -implicitDefEqProofs [*, EQS, hw, Told.row]) | (with_reducible refine condC_not (fun hq => ?_) (fun hq => ?_) <;> (try simp at hq) <;> simp -implicitDefEqProofs [*, EQS, hw, Told.row]) | (with_reducible refine condC_split (fun hq => ?_) (fun hq => ?_) <;> (try simp at hq) <;> simp -implicitDefEqProofs [*, EQS, hw, Told.row]) | (refine appK2_if (by omega) ?_; simp -implicitDefEqProofs [*, EQS, hw, Told.row]) | (refine pureV_if (by omega) ?_; simp -implicitDefEqProofs [*, EQS, hw, Told.row]))
    all_goals (obtain ⟨_, _, _⟩ := a; obtain ⟨_, _, _⟩ := b; grind)
  · rintro ⟨fr, bs⟩ ⟨rfl, h6⟩
    simp -implicitDefEqProofs [*]
  · rintro ⟨fr, bs⟩ h
    simp -implicitDefEqProofs [h.1, h.2]
theorem law_SameMsg (a b : Msg) (hl : a.ids.length ≤ cap) : Den PP 27 [msgD a, msgD b] [] (.bool (decide (a = b))) [] := by
  have h1 := law_SameInts a.ids b.ids hl
  simp only [intsD] at h1
  refine den_of [] [] is_gimmallaw0_SameMsg ?_
  simp -implicitDefEqProofs [c_gimmallaw0_SameMsg, msgD, Msg.row, intsD, EQS]
  repeat' (first | (refine callThen_of (by first | exact h1) ?_; simp -implicitDefEqProofs [*, EQS]) | (with_reducible refine gOps_dec (fun _ => ?_) (fun _ => ?_) <;> simp -implicitDefEqProofs [*, EQS]) | (with_reducible refine gOps_ndec (fun _ => ?_) (fun _ => ?_) <;> simp -implicitDefEqProofs [*, EQS]) | (with_reducible refine gOps_and (fun hq => ?_) (fun hq => ?_) <;> (try simp at hq) <;> simp -implicitDefEqProofs [*, EQS]) | (with_reducible refine gOps_or (fun hq => ?_) (fun hq => ?_) <;> (try simp at hq) <;> simp -implicitDefEqProofs [*, EQS]) | (with_reducible refine gOps_not (fun hq => ?_) (fun hq => ?_) <;> (try simp at hq) <;> simp -implicitDefEqProofs [*, EQS]) | (with_reducible refine gOps_split (fun hq => ?_) (fun hq => ?_) <;> (try simp at hq) <;> simp -implicitDefEqProofs [*, EQS]) | (with_reducible refine condC_dec (fun _ => ?_) (fun _ => ?_) <;> simp -implicitDefEqProofs [*, EQS]) | (with_reducible refine condC_ndec (fun _ => ?_) (fun _ => ?_) <;> simp -implicitDefEqProofs [*, EQS]) | (with_reducible refine condC_and (fun hq => ?_) (fun hq => ?_) <;> (try simp at hq) <;> simp -implicitDefEqProofs [*, EQS]) | (with_reducible refine condC_or (fun hq => ?_) (fun hq => ?_) <;> (try simp at hq) <;> simp -implicitDefEqProofs [*, EQS]) | (with_reducible refine condC_not (fun hq => ?_) (fun hq => ?_) <;> (try simp at hq) <;> simp -implicitDefEqProofs [*, EQS]) | (with_reducible refine condC_split (fun hq => ?_) (fun hq => ?_) <;> (try simp at hq) <;> simp -implicitDefEqProofs [*, EQS]) | (refine appK2_if (by omega) ?_; simp -implicitDefEqProofs [*, EQS]) | (refine pureV_if (by omega) ?_; simp -implicitDefEqProofs [*, EQS]))
  all_goals (obtain ⟨_, _, _, _, _, ⟨_, _, _, _, _⟩, _⟩ := a; obtain ⟨_, _, _, _, _, ⟨_, _, _, _, _⟩, _⟩ := b; grind)
theorem law_SameMsgs (xs ys : List Msg) (hl : xs.length ≤ cap16) (hi : ∀ m ∈ xs, m.ids.length ≤ cap) : Den PP 23 [msgsD xs, msgsD ys] [] (.bool (decide (xs = ys))) [] := by
  refine den_of [] [] is_gimmallaw0_SameMsgs ?_
  simp -implicitDefEqProofs [c_gimmallaw0_SameMsgs, msgsD]
  refine condC_split (fun h => ?_) (fun h => ?_)
  · simp -implicitDefEqProofs
    grind
  have hlen : xs.length = ys.length := by simp at h; omega
  simp -implicitDefEqProofs
  refine list_rule xs (fun i rest => fun ⟨fr, bs⟩ => bs = [] ∧ fr 0 = .sl (xs.map Msg.row) xs.length ∧ fr 1 = .sl (ys.map Msg.row) ys.length ∧ fr 5 = .int .i64 i ∧ (rest = ys.drop i ↔ xs = ys))
    (fun ⟨fr, bs⟩ => bs = [] ∧ xs = ys) (fun ⟨fr, bs⟩ => fr 4 = .bool false ∧ ¬ xs = ys) c_gimmallaw0_SameMsgs_L0.eq_1 ?_ ?_ ?_ ?_ ?_
  · exact ⟨rfl, rfl, rfl, rfl, by simp⟩
  · rintro i ⟨fr, bs⟩ hi ⟨rfl, h0, h1, h5, he⟩
    simp -implicitDefEqProofs [*]
    grind
  · rintro i a rest ⟨fr, bs⟩ hlt hget hg hd hd2 ⟨rfl, h0, h1, h5, he⟩
    have hlt' : (i : Int) < xs.length := by omega
    have hlt2 : i < ys.length := by omega
    have hlt3 : (i : Int) < ys.length := by omega
    have hw := wrap_next (n := i) (by unfold cap16 at hl; omega)
    rw [List.drop_eq_getElem_cons hlt2] at he
    generalize hy : ys[i] = b at he
    obtain ⟨e, hab⟩ : ∃ e, decide (a = b) = e := ⟨_, rfl⟩
    have c1 := law_SameMsg a b (hi a (List.mem_of_getElem? hget))
    rw [hab] at c1
    simp only [msgD, Msg.row] at c1
    simp -implicitDefEqProofs [h0, h1, h5, hlt, hlt', hlt2, hlt3, hget, hg, hy, Msg.row, EQS]
    repeat' (first | (refine callThen_of (by first | exact c1) ?_; simp -implicitDefEqProofs [*, EQS, hw, Msg.row]) | (with_reducible refine gOps_dec (fun _ => ?_) (fun _ => ?_) <;> simp -implicitDefEqProofs [*, EQS, hw, Msg.row]) | (with_reducible refine gOps_ndec (fun _ => ?_) (fun _ => ?_) <;> simp -implicitDefEqProofs [*, EQS, hw, Msg.row]) | (with_reducible refine gOps_and (fun hq => ?_) (fun hq => ?_) <;> (try simp at hq) <;> simp -implicitDefEqProofs [*, EQS, hw, Msg.row]) | (with_reducible refine gOps_or (fun hq => ?_) (fun hq => ?_) <;> (try simp at hq) <;> simp -implicitDefEqProofs [*, EQS, hw, Msg.row]) | (with_reducible refine gOps_not (fun hq => ?_) (fun hq => ?_) <;> (try simp at hq) <;> simp -implicitDefEqProofs [*, EQS, hw, Msg.row]) | (with_reducible refine gOps_split (fun hq => ?_) (fun hq => ?_) <;> (try simp at hq) <;> simp -implicitDefEqProofs [*, EQS, hw, Msg.row]) | (with_reducible refine condC_dec (fun _ => ?_) (fun _ => ?_) <;> simp -implicitDefEqProofs [*, EQS, hw, Msg.row]) | (with_reducible refine condC_ndec (fun _ => ?_) (fun _ => ?_) <;> simp -implicitDefEqProofs [*, EQS, hw, Msg.row]) | (with_reducible refine condC_and (fun hq => ?_) (fun hq => ?_) <;> (try simp at hq) <;> simp -implicitDefEqProofs [*, EQS, hw, Msg.row]) | (with_reducible refine condC_or (fun hq => ?_) (fun hq => ?_) <;> (try simp at hq) <;> simp -implicitDefEqProofs [*, EQS, hw, Msg.row]) | (with_reducible refine condC_not (fun hq => ?_) (fun hq => ?_) <;> (try simp at hq) <;> simp -implicitDefEqProofs [*, EQS, hw, Msg.row]) | (with_reducible refine condC_split (fun hq => ?_) (fun hq => ?_) <;> (try simp at hq) <;> simp -implicitDefEqProofs [*, EQS, hw, Msg.row]) | (refine appK2_if (by omega) ?_; simp -implicitDefEqProofs [*, EQS, hw, Msg.row]) | (refine pureV_if (by omega) ?_; simp -implicitDefEqProofs [*, EQS, hw, Msg.row]))
    all_goals (by_cases hq : a = b <;> grind)
  · rintro ⟨fr, bs⟩ ⟨rfl, h6⟩
    simp -implicitDefEqProofs [*]
  · rintro ⟨fr, bs⟩ h
    simp -implicitDefEqProofs [h.1, h.2]
theorem law_SameNode (x y : Node) (hs : x.small) : Den PP 22 [nodeD x, nodeD y] [] (.bool (decide (x = y))) [] := by
  have c1 := law_SameView x.view y.view hs.1
  have c2 := law_SameItems x.items y.items (by have := hs.2.1; unfold cap; omega)
  have c3 := law_SameTolds x.log y.log (by have := hs.2.2; unfold cap; omega)
  simp only [viewD, View.cells, peersD, intsD, itemsD, toldsD] at c1 c2 c3
  refine den_of [] [] is_gimmallaw0_SameNode ?_
  simp -implicitDefEqProofs [c_gimmallaw0_SameNode, nodeD, Node.cells, peersD, intsD, itemsD, toldsD]
  refine gOps_split (fun h => ?_) (fun h => ?_)
  all_goals simp -implicitDefEqProofs [h]
  all_goals repeat' (first | (refine callThen_of (by first | exact c1 | exact c2 | exact c3) ?_; simp -implicitDefEqProofs [*]) | (with_reducible refine gOps_dec (fun _ => ?_) (fun _ => ?_) <;> simp -implicitDefEqProofs [*]) | (with_reducible refine gOps_ndec (fun _ => ?_) (fun _ => ?_) <;> simp -implicitDefEqProofs [*]) | (with_reducible refine gOps_and (fun hq => ?_) (fun hq => ?_) <;> (try simp at hq) <;> simp -implicitDefEqProofs [*]) | (with_reducible refine gOps_or (fun hq => ?_) (fun hq => ?_) <;> (try simp at hq) <;> simp -implicitDefEqProofs [*]) | (with_reducible refine gOps_not (fun hq => ?_) (fun hq => ?_) <;> (try simp at hq) <;> simp -implicitDefEqProofs [*]) | (with_reducible refine gOps_split (fun hq => ?_) (fun hq => ?_) <;> (try simp at hq) <;> simp -implicitDefEqProofs [*]) | (with_reducible refine condC_dec (fun _ => ?_) (fun _ => ?_) <;> simp -implicitDefEqProofs [*]) | (with_reducible refine condC_ndec (fun _ => ?_) (fun _ => ?_) <;> simp -implicitDefEqProofs [*]) | (with_reducible refine condC_and (fun hq => ?_) (fun hq => ?_) <;> (try simp at hq) <;> simp -implicitDefEqProofs [*]) | (with_reducible refine condC_or (fun hq => ?_) (fun hq => ?_) <;> (try simp at hq) <;> simp -implicitDefEqProofs [*]) | (with_reducible refine condC_not (fun hq => ?_) (fun hq => ?_) <;> (try simp at hq) <;> simp -implicitDefEqProofs [*]) | (with_reducible refine condC_split (fun hq => ?_) (fun hq => ?_) <;> (try simp at hq) <;> simp -implicitDefEqProofs [*]) | (refine appK2_if (by omega) ?_; simp -implicitDefEqProofs [*]) | (refine pureV_if (by omega) ?_; simp -implicitDefEqProofs [*]))
  all_goals (obtain ⟨_, _, _, _⟩ := x; obtain ⟨_, _, _, _⟩ := y; grind)
theorem law_CopyNode (x : Node) (hs : x.small) : Den PP 14 [nodeD x] [] (.agg [.bool x.up, .int .i64 x.view.id, .ref 0 0 x.view.peers.length, .ref 1 0 x.view.passive.length, .ref 2 0 x.items.length, .ref 3 0 x.log.length])
    [⟨x.view.peers.map Peer.row, 2, .mut⟩, ⟨x.view.passive.map irow, 1, .mut⟩, ⟨x.items.map Item.row, 5, .mut⟩, ⟨x.log.map Told.row, 3, .mut⟩] := by
  have c1 := law_CopyView x.view hs.1
  simp only [viewD, View.cells, peersD, intsD] at c1
  obtain ⟨⟨h1, h2⟩, h3, h4⟩ := hs
  unfold cap16 at h1
  unfold cap at h2
  refine den_of [5] [] is_gimmallaw0_CopyNode ?_
  simp -implicitDefEqProofs [c_gimmallaw0_CopyNode, nodeD, Node.cells, peersD, intsD, itemsD, toldsD]
  repeat' (first | (refine callThen_of (by first | exact c1) ?_; simp -implicitDefEqProofs [*]) | (with_reducible refine gOps_dec (fun _ => ?_) (fun _ => ?_) <;> simp -implicitDefEqProofs [*]) | (with_reducible refine gOps_ndec (fun _ => ?_) (fun _ => ?_) <;> simp -implicitDefEqProofs [*]) | (with_reducible refine gOps_and (fun hq => ?_) (fun hq => ?_) <;> (try simp at hq) <;> simp -implicitDefEqProofs [*]) | (with_reducible refine gOps_or (fun hq => ?_) (fun hq => ?_) <;> (try simp at hq) <;> simp -implicitDefEqProofs [*]) | (with_reducible refine gOps_not (fun hq => ?_) (fun hq => ?_) <;> (try simp at hq) <;> simp -implicitDefEqProofs [*]) | (with_reducible refine gOps_split (fun hq => ?_) (fun hq => ?_) <;> (try simp at hq) <;> simp -implicitDefEqProofs [*]) | (with_reducible refine condC_dec (fun _ => ?_) (fun _ => ?_) <;> simp -implicitDefEqProofs [*]) | (with_reducible refine condC_ndec (fun _ => ?_) (fun _ => ?_) <;> simp -implicitDefEqProofs [*]) | (with_reducible refine condC_and (fun hq => ?_) (fun hq => ?_) <;> (try simp at hq) <;> simp -implicitDefEqProofs [*]) | (with_reducible refine condC_or (fun hq => ?_) (fun hq => ?_) <;> (try simp at hq) <;> simp -implicitDefEqProofs [*]) | (with_reducible refine condC_not (fun hq => ?_) (fun hq => ?_) <;> (try simp at hq) <;> simp -implicitDefEqProofs [*]) | (with_reducible refine condC_split (fun hq => ?_) (fun hq => ?_) <;> (try simp at hq) <;> simp -implicitDefEqProofs [*]) | (refine appK2_if (by omega) ?_; simp -implicitDefEqProofs [*]) | (refine pureV_if (by omega) ?_; simp -implicitDefEqProofs [*]))
theorem law_SpoilInts_nil : Den PP 61 [.nil] [] (.tup []) [] := by
  refine den_of [] [] is_gimmallaw0_SpoilInts ?_
  simp -implicitDefEqProofs [c_gimmallaw0_SpoilInts]
  refine loop_rule 0 (fun _ ⟨fr, bs⟩ => bs = [] ∧ fr 0 = .nil ∧ fr 2 = .int .i64 0) (fun ⟨fr, bs⟩ => bs = []) (fun _ => False) c_gimmallaw0_SpoilInts_L0.eq_1 ?_ ?_ ?_ ?_ ?_
  · exact ⟨rfl, rfl, rfl⟩
  · rintro ⟨fr, bs⟩ ⟨rfl, h0, h2⟩
    simp -implicitDefEqProofs [h0, h2]
  · rintro m ⟨fr, bs⟩ ⟨rfl, h0, h2⟩
    simp -implicitDefEqProofs [h0, h2]
  · rintro ⟨fr, bs⟩ rfl
    simp -implicitDefEqProofs
  · rintro ⟨fr, bs⟩ h
    exact h.elim
end Go.AM
/- AM: contracts: what the statements' helpers do with slices. -/
namespace Go.AM
set_option linter.unusedSimpArgs false
set_option linter.unusedVariables false
set_option maxRecDepth 8000
set_option maxHeartbeats 0
def spoilInt (a : Int) : Int := IntKind.wrap .i64 (-9 - a)
theorem spoil_Int (xs : List Int) (hl : xs.length ≤ cap16) : Den PP 61 [.ref 0 0 xs.length] [⟨xs.map irow, 1, .mut⟩] (.tup []) [⟨(xs.map spoilInt).map irow, 1, .mut⟩] := by
  unfold cap16 at hl
  refine den_of [] [] is_gimmallaw0_SpoilInts ?_
  simp -implicitDefEqProofs [c_gimmallaw0_SpoilInts]
  refine list_rule xs (fun i rest => fun ⟨fr, bs⟩ => ∃ done, bs = [⟨(done ++ rest).map irow, 1, .mut⟩] ∧ done.length = i ∧ done ++ rest.map spoilInt = xs.map spoilInt ∧ fr 0 = .ref 0 0 xs.length ∧ fr 2 = .int .i64 i)
    (fun ⟨fr, bs⟩ => bs = [⟨(xs.map spoilInt).map irow, 1, .mut⟩]) (fun ⟨fr, bs⟩ => False) c_gimmallaw0_SpoilInts_L0.eq_1 ?_ ?_ ?_ ?_ ?_
  · exact ⟨[], rfl, rfl, rfl, rfl, rfl⟩
  · rintro i ⟨fr, bs⟩ hi ⟨done, rfl, hd, he, h0, h2⟩
    simp -implicitDefEqProofs [h0, h2, hi]
    simp at he
    simp [he]
  · rintro i a rest ⟨fr, bs⟩ hlt hget hg hd hd2 ⟨done, rfl, hdl, he, h0, h2⟩
    have hlt' : (i : Int) < xs.length := by omega
    have hw := wrap_next (n := i) (by omega)
    have h3 : ∀ (A B : List (List D)) r, A.length = i → (A ++ r :: B)[i]? = some r := by intro A B r h; simp [← h]
    have h4 : ∀ (A B : List (List D)) r r', A.length = i → (A ++ r' :: B).set i r = A ++ r :: B := by intro A B r r' h; simp [← h]
    simp -implicitDefEqProofs [h0, h2, hlt', h3, h4, hdl, irow, hw, reach, downTo]
    exact ⟨done ++ [spoilInt a], by first | (simp [irow, spoilInt]; done) | (simp [irow, spoilInt]; rfl), by simp [hdl], by simpa using he⟩
  · rintro ⟨fr, bs⟩ rfl
    try simp -implicitDefEqProofs
  · rintro ⟨fr, bs⟩ h
    exact h.elim
def spoilPeer (a : Peer) : Peer := { a with missed := (IntKind.wrap .i64 (BitVec.ofInt IntKind.i64.bits a.missed ^^^ BitVec.ofInt IntKind.i64.bits 90).toNat) }
theorem spoil_Peer (xs : List Peer) (hl : xs.length ≤ cap16) : Den PP 87 [.ref 0 0 xs.length] [⟨xs.map Peer.row, 2, .mut⟩] (.tup []) [⟨(xs.map spoilPeer).map Peer.row, 2, .mut⟩] := by
  unfold cap16 at hl
  refine den_of [] [] is_gimmallaw0_SpoilPeers ?_
  simp -implicitDefEqProofs [c_gimmallaw0_SpoilPeers]
  refine list_rule xs (fun i rest => fun ⟨fr, bs⟩ => ∃ done, bs = [⟨(done ++ rest).map Peer.row, 2, .mut⟩] ∧ done.length = i ∧ done ++ rest.map spoilPeer = xs.map spoilPeer ∧ fr 0 = .ref 0 0 xs.length ∧ fr 2 = .int .i64 i)
    (fun ⟨fr, bs⟩ => bs = [⟨(xs.map spoilPeer).map Peer.row, 2, .mut⟩]) (fun ⟨fr, bs⟩ => False) c_gimmallaw0_SpoilPeers_L0.eq_1 ?_ ?_ ?_ ?_ ?_
  · exact ⟨[], rfl, rfl, rfl, rfl, rfl⟩
  · rintro i ⟨fr, bs⟩ hi ⟨done, rfl, hd, he, h0, h2⟩
    simp -implicitDefEqProofs [h0, h2, hi]
    simp at he
    simp [he]
  · rintro i a rest ⟨fr, bs⟩ hlt hget hg hd hd2 ⟨done, rfl, hdl, he, h0, h2⟩
    have hlt' : (i : Int) < xs.length := by omega
    have hw := wrap_next (n := i) (by omega)
    have h3 : ∀ (A B : List (List D)) r, A.length = i → (A ++ r :: B)[i]? = some r := by intro A B r h; simp [← h]
    have h4 : ∀ (A B : List (List D)) r r', A.length = i → (A ++ r' :: B).set i r = A ++ r :: B := by intro A B r r' h; simp [← h]
    simp -implicitDefEqProofs [h0, h2, hlt', h3, h4, hdl, Peer.row, hw, reach, downTo]
    exact ⟨done ++ [spoilPeer a], by first | (simp [Peer.row, spoilPeer]; done) | (simp [Peer.row, spoilPeer]; rfl), by simp [hdl], by simpa using he⟩
  · rintro ⟨fr, bs⟩ rfl
    try simp -implicitDefEqProofs
  · rintro ⟨fr, bs⟩ h
    exact h.elim
def spoilItem (a : Item) : Item := { a with value := (IntKind.wrap .i64 (BitVec.ofInt IntKind.i64.bits a.value ^^^ BitVec.ofInt IntKind.i64.bits 90).toNat) }
theorem spoil_Item (xs : List Item) (hl : xs.length ≤ cap16) : Den PP 59 [.ref 0 0 xs.length] [⟨xs.map Item.row, 5, .mut⟩] (.tup []) [⟨(xs.map spoilItem).map Item.row, 5, .mut⟩] := by
  unfold cap16 at hl
  refine den_of [] [] is_gimmallaw0_SpoilItems ?_
  simp -implicitDefEqProofs [c_gimmallaw0_SpoilItems]
  refine list_rule xs (fun i rest => fun ⟨fr, bs⟩ => ∃ done, bs = [⟨(done ++ rest).map Item.row, 5, .mut⟩] ∧ done.length = i ∧ done ++ rest.map spoilItem = xs.map spoilItem ∧ fr 0 = .ref 0 0 xs.length ∧ fr 2 = .int .i64 i)
    (fun ⟨fr, bs⟩ => bs = [⟨(xs.map spoilItem).map Item.row, 5, .mut⟩]) (fun ⟨fr, bs⟩ => False) c_gimmallaw0_SpoilItems_L0.eq_1 ?_ ?_ ?_ ?_ ?_
  · exact ⟨[], rfl, rfl, rfl, rfl, rfl⟩
  · rintro i ⟨fr, bs⟩ hi ⟨done, rfl, hd, he, h0, h2⟩
    simp -implicitDefEqProofs [h0, h2, hi]
    simp at he
    simp [he]
  · rintro i a rest ⟨fr, bs⟩ hlt hget hg hd hd2 ⟨done, rfl, hdl, he, h0, h2⟩
    have hlt' : (i : Int) < xs.length := by omega
    have hw := wrap_next (n := i) (by omega)
    have h3 : ∀ (A B : List (List D)) r, A.length = i → (A ++ r :: B)[i]? = some r := by intro A B r h; simp [← h]
    have h4 : ∀ (A B : List (List D)) r r', A.length = i → (A ++ r' :: B).set i r = A ++ r :: B := by intro A B r r' h; simp [← h]
    simp -implicitDefEqProofs [h0, h2, hlt', h3, h4, hdl, Item.row, hw, reach, downTo]
    exact ⟨done ++ [spoilItem a], by first | (simp [Item.row, spoilItem]; done) | (simp [Item.row, spoilItem]; rfl), by simp [hdl], by simpa using he⟩
  · rintro ⟨fr, bs⟩ rfl
    try simp -implicitDefEqProofs
  · rintro ⟨fr, bs⟩ h
    exact h.elim
def spoilTold (a : Told) : Told := { a with value := (IntKind.wrap .i64 (BitVec.ofInt IntKind.i64.bits a.value ^^^ BitVec.ofInt IntKind.i64.bits 90).toNat) }
theorem spoil_Told (xs : List Told) (hl : xs.length ≤ cap16) : Den PP 60 [.ref 0 0 xs.length] [⟨xs.map Told.row, 3, .mut⟩] (.tup []) [⟨(xs.map spoilTold).map Told.row, 3, .mut⟩] := by
  unfold cap16 at hl
  refine den_of [] [] is_gimmallaw0_SpoilTolds ?_
  simp -implicitDefEqProofs [c_gimmallaw0_SpoilTolds]
  refine list_rule xs (fun i rest => fun ⟨fr, bs⟩ => ∃ done, bs = [⟨(done ++ rest).map Told.row, 3, .mut⟩] ∧ done.length = i ∧ done ++ rest.map spoilTold = xs.map spoilTold ∧ fr 0 = .ref 0 0 xs.length ∧ fr 2 = .int .i64 i)
    (fun ⟨fr, bs⟩ => bs = [⟨(xs.map spoilTold).map Told.row, 3, .mut⟩]) (fun ⟨fr, bs⟩ => False) c_gimmallaw0_SpoilTolds_L0.eq_1 ?_ ?_ ?_ ?_ ?_
  · exact ⟨[], rfl, rfl, rfl, rfl, rfl⟩
  · rintro i ⟨fr, bs⟩ hi ⟨done, rfl, hd, he, h0, h2⟩
    simp -implicitDefEqProofs [h0, h2, hi]
    simp at he
    simp [he]
  · rintro i a rest ⟨fr, bs⟩ hlt hget hg hd hd2 ⟨done, rfl, hdl, he, h0, h2⟩
    have hlt' : (i : Int) < xs.length := by omega
    have hw := wrap_next (n := i) (by omega)
    have h3 : ∀ (A B : List (List D)) r, A.length = i → (A ++ r :: B)[i]? = some r := by intro A B r h; simp [← h]
    have h4 : ∀ (A B : List (List D)) r r', A.length = i → (A ++ r' :: B).set i r = A ++ r :: B := by intro A B r r' h; simp [← h]
    simp -implicitDefEqProofs [h0, h2, hlt', h3, h4, hdl, Told.row, hw, reach, downTo]
    exact ⟨done ++ [spoilTold a], by first | (simp [Told.row, spoilTold]; done) | (simp [Told.row, spoilTold]; rfl), by simp [hdl], by simpa using he⟩
  · rintro ⟨fr, bs⟩ rfl
    try simp -implicitDefEqProofs
  · rintro ⟨fr, bs⟩ h
    exact h.elim
end Go.AM
/- AM: contracts: the document's best, its put; what a node takes. -/
namespace Go.AM
set_option linter.unusedSimpArgs false
set_option linter.unusedVariables false
set_option maxRecDepth 8000
set_option maxHeartbeats 0
def newerR (a b : Item) : Bool × Int := if verMay a.count a.writer && verMay b.count b.writer then (decide (b.count < a.count) || decide (a.count = b.count) && decide (b.writer < a.writer), 0) else (false, 300)
theorem ref_Newer (a b : Item) : Den PP 74 [.agg [.int .i64 a.count, .int .i64 a.writer], .agg [.int .i64 b.count, .int .i64 b.writer]] [] (.tup [.bool (newerR a b).1, .int .i64 (newerR a b).2]) [] := by
  refine den_of [] [] is_gimmalref1_Newer ?_
  simp -implicitDefEqProofs [c_gimmalref1_Newer]
  repeat' (first | (refine callThen_of (by first | exact ref_VersionMay _ _) ?_; simp -implicitDefEqProofs [*, newerR]) | (with_reducible refine gOps_dec (fun _ => ?_) (fun _ => ?_) <;> simp -implicitDefEqProofs [*, newerR]) | (with_reducible refine gOps_ndec (fun _ => ?_) (fun _ => ?_) <;> simp -implicitDefEqProofs [*, newerR]) | (with_reducible refine gOps_and (fun hq => ?_) (fun hq => ?_) <;> (try simp at hq) <;> simp -implicitDefEqProofs [*, newerR]) | (with_reducible refine gOps_or (fun hq => ?_) (fun hq => ?_) <;> (try simp at hq) <;> simp -implicitDefEqProofs [*, newerR]) | (with_reducible refine gOps_not (fun hq => ?_) (fun hq => ?_) <;> (try simp at hq) <;> simp -implicitDefEqProofs [*, newerR]) | (with_reducible refine gOps_split (fun hq => ?_) (fun hq => ?_) <;> (try simp at hq) <;> simp -implicitDefEqProofs [*, newerR]) | (with_reducible refine condC_dec (fun _ => ?_) (fun _ => ?_) <;> simp -implicitDefEqProofs [*, newerR]) | (with_reducible refine condC_ndec (fun _ => ?_) (fun _ => ?_) <;> simp -implicitDefEqProofs [*, newerR]) | (with_reducible refine condC_and (fun hq => ?_) (fun hq => ?_) <;> (try simp at hq) <;> simp -implicitDefEqProofs [*, newerR]) | (with_reducible refine condC_or (fun hq => ?_) (fun hq => ?_) <;> (try simp at hq) <;> simp -implicitDefEqProofs [*, newerR]) | (with_reducible refine condC_not (fun hq => ?_) (fun hq => ?_) <;> (try simp at hq) <;> simp -implicitDefEqProofs [*, newerR]) | (with_reducible refine condC_split (fun hq => ?_) (fun hq => ?_) <;> (try simp at hq) <;> simp -implicitDefEqProofs [*, newerR]) | (refine appK2_if (by omega) ?_; simp -implicitDefEqProofs [*, newerR]) | (refine pureV_if (by omega) ?_; simp -implicitDefEqProofs [*, newerR]))
def bestR (a b : Item) : Item × Int := if itemMay a && (itemMay b && decide (a.key = b.key)) then (bestI a b, 0) else (zeroItem, 400)
theorem ref_Best (a b : Item) : Den PP 44 [.agg a.row, .agg b.row] [] (.tup [.agg (bestR a b).1.row, .int .i64 (bestR a b).2]) [] := by
  have c1 := ref_ItemMay a
  have c2 := ref_ItemMay b
  have c3 := ref_Newer a b
  have hv : itemMay a = true → itemMay b = true → newerR a b = (decide (b.count < a.count) || decide (a.count = b.count) && decide (b.writer < a.writer), 0) := by
    intro h1 h2
    simp only [itemMay, Bool.and_eq_true] at h1 h2
    simp [newerR, h1.1.2, h2.1.2]
  have hg1 : itemMay a = true → a.gone = true → a.value = 0 := by
    intro h1 h2
    simp [itemMay, h2] at h1
    exact h1.2
  have hg2 : itemMay b = true → b.gone = true → b.value = 0 := by
    intro h1 h2
    simp [itemMay, h2] at h1
    exact h1.2
  have hbr : bestR a b = if itemMay a && (itemMay b && decide (a.key = b.key)) then (bestI a b, 0) else (zeroItem, 400) := rfl
  obtain ⟨A, hA⟩ : ∃ A, itemMay a = A := ⟨_, rfl⟩
  obtain ⟨B, hB⟩ : ∃ B, itemMay b = B := ⟨_, rfl⟩
  rw [hA] at c1 hv hg1 hbr
  rw [hB] at c2 hv hg2 hbr
  obtain ⟨r, hr⟩ : ∃ r, bestR a b = r := ⟨_, rfl⟩
  obtain ⟨nr, hnr⟩ : ∃ nr, newerR a b = nr := ⟨_, rfl⟩
  rw [hr] at hbr ⊢
  rw [hnr] at hv c3
  obtain ⟨ak, ac, aw, av, ag⟩ := a
  obtain ⟨bk, bc, bw, bv, bg⟩ := b
  simp only [Item.row] at c1 c2 c3 hv hg1 hg2 hbr ⊢
  clear hA hB hr hnr
  refine den_of [] [] is_gimmalref1_Best ?_
  cases ag <;> cases bg
  all_goals
    simp -implicitDefEqProofs [c_gimmalref1_Best, EQS]
    repeat' (first | (refine callThen_of (by first | exact c1 | exact c2 | exact c3) ?_; simp -implicitDefEqProofs [*, EQS]) | (with_reducible refine gOps_dec (fun _ => ?_) (fun _ => ?_) <;> simp -implicitDefEqProofs [*, EQS]) | (with_reducible refine gOps_ndec (fun _ => ?_) (fun _ => ?_) <;> simp -implicitDefEqProofs [*, EQS]) | (with_reducible refine gOps_and (fun hq => ?_) (fun hq => ?_) <;> (try simp at hq) <;> simp -implicitDefEqProofs [*, EQS]) | (with_reducible refine gOps_or (fun hq => ?_) (fun hq => ?_) <;> (try simp at hq) <;> simp -implicitDefEqProofs [*, EQS]) | (with_reducible refine gOps_not (fun hq => ?_) (fun hq => ?_) <;> (try simp at hq) <;> simp -implicitDefEqProofs [*, EQS]) | (with_reducible refine gOps_split (fun hq => ?_) (fun hq => ?_) <;> (try simp at hq) <;> simp -implicitDefEqProofs [*, EQS]) | (with_reducible refine condC_dec (fun _ => ?_) (fun _ => ?_) <;> simp -implicitDefEqProofs [*, EQS]) | (with_reducible refine condC_ndec (fun _ => ?_) (fun _ => ?_) <;> simp -implicitDefEqProofs [*, EQS]) | (with_reducible refine condC_and (fun hq => ?_) (fun hq => ?_) <;> (try simp at hq) <;> simp -implicitDefEqProofs [*, EQS]) | (with_reducible refine condC_or (fun hq => ?_) (fun hq => ?_) <;> (try simp at hq) <;> simp -implicitDefEqProofs [*, EQS]) | (with_reducible refine condC_not (fun hq => ?_) (fun hq => ?_) <;> (try simp at hq) <;> simp -implicitDefEqProofs [*, EQS]) | (with_reducible refine condC_split (fun hq => ?_) (fun hq => ?_) <;> (try simp at hq) <;> simp -implicitDefEqProofs [*, EQS]) | (refine appK2_if (by omega) ?_; simp -implicitDefEqProofs [*, EQS]) | (refine pureV_if (by omega) ?_; simp -implicitDefEqProofs [*, EQS]))
    all_goals (subst hbr; simp [bestI, better, zeroItem] <;> grind)
def inv_Put (is : List Item) (x : Item) (i : Nat) (rest : List Item) : St → Prop := fun ⟨fr, bs⟩ => ∃ acc inn, bs = [⟨[x.row], 5, .box⟩, ⟨[], 5, .mut⟩, ⟨acc.map Item.row, 5, .mut⟩] ∧ acc.length ≤ 2 * i ∧ acc ++ putG x inn rest = putG x false is ∧ fr 0 = itemsD is ∧ fr 3 = .ptr 0 0 0 ∧ fr 6 = .ref 2 0 acc.length ∧ fr 7 = .bool inn ∧ fr 8 = .int .i64 i
def end_Put (is : List Item) (x : Item) : St → Prop := fun ⟨fr, bs⟩ => ∃ acc inn, bs = [⟨[x.row], 5, .box⟩, ⟨[], 5, .mut⟩, ⟨acc.map Item.row, 5, .mut⟩] ∧ acc.length ≤ 2 * is.length ∧ acc ++ putG x inn [] = putG x false is ∧ fr 3 = .ptr 0 0 0 ∧ fr 6 = .ref 2 0 acc.length ∧ fr 7 = .bool inn
theorem ref_PutStore (is : List Item) (x : Item) (hl : is.length ≤ cap16) : Den PP 73 [itemsD is, .agg x.row] [] (.tup [.ref 0 0 (putR is x).1.length, .int .i64 (putR is x).2]) [⟨(putR is x).1.map Item.row, 5, .mut⟩] := by
  have c1 := ref_StoreMay is hl
  have c2 := ref_ItemMay x
  simp only [itemsD, Item.row] at c1 c2
  refine den_of [] [] is_gimmalref1_PutStore ?_
  obtain ⟨r, hr⟩ : ∃ r, putR is x = r := ⟨_, rfl⟩
  have hr' := hr
  unfold putR at hr'
  rw [hr]
  cases hm : storeMay is with
  | false =>
    rw [hm] at hr' c1
    simp at hr'
    subst hr'
    simp -implicitDefEqProofs [c_gimmalref1_PutStore, itemsD, Item.row]
    repeat' (first | (refine callThen_of (by first | exact c1) ?_; simp -implicitDefEqProofs [*]) | (with_reducible refine gOps_dec (fun _ => ?_) (fun _ => ?_) <;> simp -implicitDefEqProofs [*]) | (with_reducible refine gOps_ndec (fun _ => ?_) (fun _ => ?_) <;> simp -implicitDefEqProofs [*]) | (with_reducible refine gOps_and (fun hq => ?_) (fun hq => ?_) <;> (try simp at hq) <;> simp -implicitDefEqProofs [*]) | (with_reducible refine gOps_or (fun hq => ?_) (fun hq => ?_) <;> (try simp at hq) <;> simp -implicitDefEqProofs [*]) | (with_reducible refine gOps_not (fun hq => ?_) (fun hq => ?_) <;> (try simp at hq) <;> simp -implicitDefEqProofs [*]) | (with_reducible refine gOps_split (fun hq => ?_) (fun hq => ?_) <;> (try simp at hq) <;> simp -implicitDefEqProofs [*]) | (with_reducible refine condC_dec (fun _ => ?_) (fun _ => ?_) <;> simp -implicitDefEqProofs [*]) | (with_reducible refine condC_ndec (fun _ => ?_) (fun _ => ?_) <;> simp -implicitDefEqProofs [*]) | (with_reducible refine condC_and (fun hq => ?_) (fun hq => ?_) <;> (try simp at hq) <;> simp -implicitDefEqProofs [*]) | (with_reducible refine condC_or (fun hq => ?_) (fun hq => ?_) <;> (try simp at hq) <;> simp -implicitDefEqProofs [*]) | (with_reducible refine condC_not (fun hq => ?_) (fun hq => ?_) <;> (try simp at hq) <;> simp -implicitDefEqProofs [*]) | (with_reducible refine condC_split (fun hq => ?_) (fun hq => ?_) <;> (try simp at hq) <;> simp -implicitDefEqProofs [*]) | (refine appK2_if (by omega) ?_; simp -implicitDefEqProofs [*]) | (refine pureV_if (by omega) ?_; simp -implicitDefEqProofs [*]))
  | true =>
    cases hx : itemMay x with
    | false =>
      rw [hm, hx] at hr'
      rw [hm] at c1
      rw [hx] at c2
      simp at hr'
      subst hr'
      simp -implicitDefEqProofs [c_gimmalref1_PutStore, itemsD, Item.row]
      repeat' (first | (refine callThen_of (by first | exact c1 | exact c2) ?_; simp -implicitDefEqProofs [*]) | (with_reducible refine gOps_dec (fun _ => ?_) (fun _ => ?_) <;> simp -implicitDefEqProofs [*]) | (with_reducible refine gOps_ndec (fun _ => ?_) (fun _ => ?_) <;> simp -implicitDefEqProofs [*]) | (with_reducible refine gOps_and (fun hq => ?_) (fun hq => ?_) <;> (try simp at hq) <;> simp -implicitDefEqProofs [*]) | (with_reducible refine gOps_or (fun hq => ?_) (fun hq => ?_) <;> (try simp at hq) <;> simp -implicitDefEqProofs [*]) | (with_reducible refine gOps_not (fun hq => ?_) (fun hq => ?_) <;> (try simp at hq) <;> simp -implicitDefEqProofs [*]) | (with_reducible refine gOps_split (fun hq => ?_) (fun hq => ?_) <;> (try simp at hq) <;> simp -implicitDefEqProofs [*]) | (with_reducible refine condC_dec (fun _ => ?_) (fun _ => ?_) <;> simp -implicitDefEqProofs [*]) | (with_reducible refine condC_ndec (fun _ => ?_) (fun _ => ?_) <;> simp -implicitDefEqProofs [*]) | (with_reducible refine condC_and (fun hq => ?_) (fun hq => ?_) <;> (try simp at hq) <;> simp -implicitDefEqProofs [*]) | (with_reducible refine condC_or (fun hq => ?_) (fun hq => ?_) <;> (try simp at hq) <;> simp -implicitDefEqProofs [*]) | (with_reducible refine condC_not (fun hq => ?_) (fun hq => ?_) <;> (try simp at hq) <;> simp -implicitDefEqProofs [*]) | (with_reducible refine condC_split (fun hq => ?_) (fun hq => ?_) <;> (try simp at hq) <;> simp -implicitDefEqProofs [*]) | (refine appK2_if (by omega) ?_; simp -implicitDefEqProofs [*]) | (refine pureV_if (by omega) ?_; simp -implicitDefEqProofs [*]))
    | true =>
      rw [hm, hx] at hr'
      rw [hm] at c1
      rw [hx] at c2
      simp only [Bool.and_self, if_true] at hr'
      obtain ⟨hall, hris, hlen⟩ := (storeMay_iff is).1 hm
      rw [← putG_eq x is hris] at hr'
      simp -implicitDefEqProofs [c_gimmalref1_PutStore, itemsD, Item.row]
      repeat' (first | (refine callThen_of (by first | exact c1 | exact c2) ?_; simp -implicitDefEqProofs [*]) | (with_reducible refine gOps_dec (fun _ => ?_) (fun _ => ?_) <;> simp -implicitDefEqProofs [*]) | (with_reducible refine gOps_ndec (fun _ => ?_) (fun _ => ?_) <;> simp -implicitDefEqProofs [*]) | (with_reducible refine gOps_and (fun hq => ?_) (fun hq => ?_) <;> (try simp at hq) <;> simp -implicitDefEqProofs [*]) | (with_reducible refine gOps_or (fun hq => ?_) (fun hq => ?_) <;> (try simp at hq) <;> simp -implicitDefEqProofs [*]) | (with_reducible refine gOps_not (fun hq => ?_) (fun hq => ?_) <;> (try simp at hq) <;> simp -implicitDefEqProofs [*]) | (with_reducible refine gOps_split (fun hq => ?_) (fun hq => ?_) <;> (try simp at hq) <;> simp -implicitDefEqProofs [*]) | (with_reducible refine condC_dec (fun _ => ?_) (fun _ => ?_) <;> simp -implicitDefEqProofs [*]) | (with_reducible refine condC_ndec (fun _ => ?_) (fun _ => ?_) <;> simp -implicitDefEqProofs [*]) | (with_reducible refine condC_and (fun hq => ?_) (fun hq => ?_) <;> (try simp at hq) <;> simp -implicitDefEqProofs [*]) | (with_reducible refine condC_or (fun hq => ?_) (fun hq => ?_) <;> (try simp at hq) <;> simp -implicitDefEqProofs [*]) | (with_reducible refine condC_not (fun hq => ?_) (fun hq => ?_) <;> (try simp at hq) <;> simp -implicitDefEqProofs [*]) | (with_reducible refine condC_split (fun hq => ?_) (fun hq => ?_) <;> (try simp at hq) <;> simp -implicitDefEqProofs [*]) | (refine appK2_if (by omega) ?_; simp -implicitDefEqProofs [*]) | (refine pureV_if (by omega) ?_; simp -implicitDefEqProofs [*]))
      refine list_rule is (inv_Put is x) (end_Put is x) (fun ⟨fr, bs⟩ => False) c_gimmalref1_PutStore_L0.eq_1 ?_ ?_ ?_ ?_ ?_
      · exact ⟨[], false, rfl, by simp, rfl, rfl, rfl, rfl, rfl, rfl⟩
      · rintro i ⟨fr, bs⟩ hi ⟨acc, inn, rfl, hal, he, h0, h3, h6, h7, h8⟩
        simp -implicitDefEqProofs [h0, h3, h6, h7, h8, hi, itemsD]
        exact ⟨acc, inn, rfl, by simpa [hi] using hal, he, by simp [h3], by simp [h6], by simp [h7]⟩
      · rintro i a rest ⟨fr, bs⟩ hlt hget hg hd hd2 ⟨acc, inn, rfl, hal, he, h0, h3, h6, h7, h8⟩
        have hlt' : (i : Int) < is.length := by omega
        have hw := wrap_next (n := i) (by omega)
        have ham := hall a (List.mem_of_getElem? hget)
        have c3 := ref_Best a x
        have c4 : a.key = x.key → Den PP 44 [.agg [.int .i64 x.key, .int .i64 a.count, .int .i64 a.writer, .int .i64 a.value, .bool a.gone], .agg [.int .i64 x.key, .int .i64 x.count, .int .i64 x.writer, .int .i64 x.value, .bool x.gone]] [] (.tup [.agg (bestI a x).row, .int .i64 0]) [] := by
          intro h
          simp only [bestR, ham, hx, Bool.true_and, Item.row, h, decide_true, if_true] at c3
          exact c3
        clear c3
        simp only [putG] at he
        have hbo : ∀ b : Bool, (inn = b) → True := fun _ _ => trivial
        clear hbo
        simp -implicitDefEqProofs [h0, h3, h6, h7, h8, hlt, hlt', hget, hg, itemsD, Item.row]
        repeat' (first | (refine callThen_of (by first | exact c4 (by assumption)) ?_; simp -implicitDefEqProofs [*, itemsD, Item.row, hw, Fits]) | (with_reducible refine gOps_dec (fun _ => ?_) (fun _ => ?_) <;> simp -implicitDefEqProofs [*, itemsD, Item.row, hw, Fits]) | (with_reducible refine gOps_ndec (fun _ => ?_) (fun _ => ?_) <;> simp -implicitDefEqProofs [*, itemsD, Item.row, hw, Fits]) | (with_reducible refine gOps_and (fun hq => ?_) (fun hq => ?_) <;> (try simp at hq) <;> simp -implicitDefEqProofs [*, itemsD, Item.row, hw, Fits]) | (with_reducible refine gOps_or (fun hq => ?_) (fun hq => ?_) <;> (try simp at hq) <;> simp -implicitDefEqProofs [*, itemsD, Item.row, hw, Fits]) | (with_reducible refine gOps_not (fun hq => ?_) (fun hq => ?_) <;> (try simp at hq) <;> simp -implicitDefEqProofs [*, itemsD, Item.row, hw, Fits]) | (with_reducible refine gOps_split (fun hq => ?_) (fun hq => ?_) <;> (try simp at hq) <;> simp -implicitDefEqProofs [*, itemsD, Item.row, hw, Fits]) | (with_reducible refine condC_dec (fun _ => ?_) (fun _ => ?_) <;> simp -implicitDefEqProofs [*, itemsD, Item.row, hw, Fits]) | (with_reducible refine condC_ndec (fun _ => ?_) (fun _ => ?_) <;> simp -implicitDefEqProofs [*, itemsD, Item.row, hw, Fits]) | (with_reducible refine condC_and (fun hq => ?_) (fun hq => ?_) <;> (try simp at hq) <;> simp -implicitDefEqProofs [*, itemsD, Item.row, hw, Fits]) | (with_reducible refine condC_or (fun hq => ?_) (fun hq => ?_) <;> (try simp at hq) <;> simp -implicitDefEqProofs [*, itemsD, Item.row, hw, Fits]) | (with_reducible refine condC_not (fun hq => ?_) (fun hq => ?_) <;> (try simp at hq) <;> simp -implicitDefEqProofs [*, itemsD, Item.row, hw, Fits]) | (with_reducible refine condC_split (fun hq => ?_) (fun hq => ?_) <;> (try simp at hq) <;> simp -implicitDefEqProofs [*, itemsD, Item.row, hw, Fits]) | (refine appK2_if (by omega) ?_; simp -implicitDefEqProofs [*, itemsD, Item.row, hw, Fits]) | (refine pureV_if (by omega) ?_; simp -implicitDefEqProofs [*, itemsD, Item.row, hw, Fits]))
        all_goals
          refine ⟨acc ++ ((if inn = false ∧ x.key < a.key then [x] else []) ++ (if a.key = x.key then [bestI a x] else [a])), inn || decide (x.key < a.key) || decide (a.key = x.key), ?_⟩
          simp [*, Item.row]
          grind
      · rintro ⟨fr, bs⟩ ⟨acc, inn, rfl, hal, he, h3, h6, h7⟩
        simp only [putG] at he
        generalize hG : putG x false is = G at *
        clear hr
        simp -implicitDefEqProofs [h3, h6, h7]
        repeat' (first | (with_reducible refine gOps_dec (fun _ => ?_) (fun _ => ?_) <;> simp -implicitDefEqProofs [*, Item.row, Fits]) | (with_reducible refine gOps_ndec (fun _ => ?_) (fun _ => ?_) <;> simp -implicitDefEqProofs [*, Item.row, Fits]) | (with_reducible refine gOps_and (fun hq => ?_) (fun hq => ?_) <;> (try simp at hq) <;> simp -implicitDefEqProofs [*, Item.row, Fits]) | (with_reducible refine gOps_or (fun hq => ?_) (fun hq => ?_) <;> (try simp at hq) <;> simp -implicitDefEqProofs [*, Item.row, Fits]) | (with_reducible refine gOps_not (fun hq => ?_) (fun hq => ?_) <;> (try simp at hq) <;> simp -implicitDefEqProofs [*, Item.row, Fits]) | (with_reducible refine gOps_split (fun hq => ?_) (fun hq => ?_) <;> (try simp at hq) <;> simp -implicitDefEqProofs [*, Item.row, Fits]) | (with_reducible refine condC_dec (fun _ => ?_) (fun _ => ?_) <;> simp -implicitDefEqProofs [*, Item.row, Fits]) | (with_reducible refine condC_ndec (fun _ => ?_) (fun _ => ?_) <;> simp -implicitDefEqProofs [*, Item.row, Fits]) | (with_reducible refine condC_and (fun hq => ?_) (fun hq => ?_) <;> (try simp at hq) <;> simp -implicitDefEqProofs [*, Item.row, Fits]) | (with_reducible refine condC_or (fun hq => ?_) (fun hq => ?_) <;> (try simp at hq) <;> simp -implicitDefEqProofs [*, Item.row, Fits]) | (with_reducible refine condC_not (fun hq => ?_) (fun hq => ?_) <;> (try simp at hq) <;> simp -implicitDefEqProofs [*, Item.row, Fits]) | (with_reducible refine condC_split (fun hq => ?_) (fun hq => ?_) <;> (try simp at hq) <;> simp -implicitDefEqProofs [*, Item.row, Fits]) | (refine appK2_if (by omega) ?_; simp -implicitDefEqProofs [*, Item.row, Fits]) | (refine pureV_if (by omega) ?_; simp -implicitDefEqProofs [*, Item.row, Fits]))
        all_goals (subst hr'; grind [Item.row])
      · rintro ⟨fr, bs⟩ h
        exact h.elim
end Go.AM
/- AM: contracts: the best of two, a store's item, its put. -/
namespace Go.AM
set_option linter.unusedSimpArgs false
set_option linter.unusedVariables false
set_option maxRecDepth 8000
set_option maxHeartbeats 0
theorem version_Newer (a b : Item) : Den PP 122 [.agg [.int .i64 a.count, .int .i64 a.writer], .agg [.int .i64 b.count, .int .i64 b.writer]] [] (.tup [.bool (newerR a b).1, .int .i64 (newerR a b).2]) [] := by
  refine den_of [] [] is_version_Newer ?_
  simp -implicitDefEqProofs [c_version_Newer]
  repeat' (first | (refine callThen_of (by first | exact version_May _ _) ?_; simp -implicitDefEqProofs [*, newerR]) | (with_reducible refine gOps_dec (fun _ => ?_) (fun _ => ?_) <;> simp -implicitDefEqProofs [*, newerR]) | (with_reducible refine gOps_ndec (fun _ => ?_) (fun _ => ?_) <;> simp -implicitDefEqProofs [*, newerR]) | (with_reducible refine gOps_and (fun hq => ?_) (fun hq => ?_) <;> (try simp at hq) <;> simp -implicitDefEqProofs [*, newerR]) | (with_reducible refine gOps_or (fun hq => ?_) (fun hq => ?_) <;> (try simp at hq) <;> simp -implicitDefEqProofs [*, newerR]) | (with_reducible refine gOps_not (fun hq => ?_) (fun hq => ?_) <;> (try simp at hq) <;> simp -implicitDefEqProofs [*, newerR]) | (with_reducible refine gOps_split (fun hq => ?_) (fun hq => ?_) <;> (try simp at hq) <;> simp -implicitDefEqProofs [*, newerR]) | (with_reducible refine condC_dec (fun _ => ?_) (fun _ => ?_) <;> simp -implicitDefEqProofs [*, newerR]) | (with_reducible refine condC_ndec (fun _ => ?_) (fun _ => ?_) <;> simp -implicitDefEqProofs [*, newerR]) | (with_reducible refine condC_and (fun hq => ?_) (fun hq => ?_) <;> (try simp at hq) <;> simp -implicitDefEqProofs [*, newerR]) | (with_reducible refine condC_or (fun hq => ?_) (fun hq => ?_) <;> (try simp at hq) <;> simp -implicitDefEqProofs [*, newerR]) | (with_reducible refine condC_not (fun hq => ?_) (fun hq => ?_) <;> (try simp at hq) <;> simp -implicitDefEqProofs [*, newerR]) | (with_reducible refine condC_split (fun hq => ?_) (fun hq => ?_) <;> (try simp at hq) <;> simp -implicitDefEqProofs [*, newerR]) | (refine appK2_if (by omega) ?_; simp -implicitDefEqProofs [*, newerR]) | (refine pureV_if (by omega) ?_; simp -implicitDefEqProofs [*, newerR]))
theorem item_better (a b : Item) (ha : verMay a.count a.writer = true) (hb : verMay b.count b.writer = true) : Den PP 113 [.mem a.row, .mem b.row] [] (.bool (better a b)) [] := by
  have c1 := version_Newer a b
  simp only [newerR, ha, hb, Bool.and_self, if_true] at c1
  obtain ⟨ak, ac, aw, av, ag⟩ := a
  obtain ⟨bk, bc, bw, bv, bg⟩ := b
  simp only [Item.row, better] at c1 ⊢
  clear ha hb
  refine den_of [] [] is_item_better ?_
  by_cases h1 : ac = bc
  · subst h1
    by_cases h2 : aw = bw
    · subst h2
      clear c1
      cases ag <;> cases bg
      all_goals simp -implicitDefEqProofs [c_item_better, EQS]
    · have h3 : decide (bw < aw) = (decide (bw < aw) || false) := by simp
      simp -implicitDefEqProofs [c_item_better, EQS, h2]
      simp at c1
      refine callThen_of c1 ?_
      simp -implicitDefEqProofs [EQS, h2]
  · simp -implicitDefEqProofs [c_item_better, EQS, h1]
    simp [h1] at c1
    refine callThen_of c1 ?_
    simp -implicitDefEqProofs [EQS, h1]
theorem item_Best (a b : Item) : Den PP 94 [.agg a.row, .agg b.row] [] (.tup [.agg (bestR a b).1.row, .int .i64 (bestR a b).2]) [] := by
  have c1 := item_May a
  have c2 := item_May b
  have c3 := fun h1 h2 => item_better a b h1 h2
  have hv : itemMay a = true → verMay a.count a.writer = true := by
    intro h; simp only [itemMay, Bool.and_eq_true] at h; exact h.1.2
  have hw : itemMay b = true → verMay b.count b.writer = true := by
    intro h; simp only [itemMay, Bool.and_eq_true] at h; exact h.1.2
  have hbr : bestR a b = if itemMay a && (itemMay b && decide (a.key = b.key)) then (bestI a b, 0) else (zeroItem, 400) := rfl
  obtain ⟨A, hA⟩ : ∃ A, itemMay a = A := ⟨_, rfl⟩
  obtain ⟨B, hB⟩ : ∃ B, itemMay b = B := ⟨_, rfl⟩
  rw [hA] at c1 hv hbr
  rw [hB] at c2 hw hbr
  obtain ⟨r, hr⟩ : ∃ r, bestR a b = r := ⟨_, rfl⟩
  rw [hr] at hbr ⊢
  unfold bestI at hbr
  obtain ⟨q, hq⟩ : ∃ q, better a b = q := ⟨_, rfl⟩
  rw [hq] at c3 hbr
  obtain ⟨ak, ac, aw, av, ag⟩ := a
  obtain ⟨bk, bc, bw, bv, bg⟩ := b
  simp only [Item.row] at c1 c2 c3 hv hw hbr ⊢
  clear hA hB hr hq
  refine den_of [] [] is_item_Best ?_
  cases A <;> cases B
  case true.true =>
    have c3' := c3 (hv rfl) (hw rfl)
    clear c3 hv hw
    by_cases hk : ak = bk
    · subst hk
      cases q
      all_goals
        simp at hbr
        subst hbr
        simp -implicitDefEqProofs [c_item_Best]
        repeat' (first | (refine callThen_of (by first | exact c1 | exact c2 | exact c3') ?_; simp -implicitDefEqProofs [*]) | (with_reducible refine gOps_dec (fun _ => ?_) (fun _ => ?_) <;> simp -implicitDefEqProofs [*]) | (with_reducible refine gOps_ndec (fun _ => ?_) (fun _ => ?_) <;> simp -implicitDefEqProofs [*]) | (with_reducible refine gOps_and (fun hq => ?_) (fun hq => ?_) <;> (try simp at hq) <;> simp -implicitDefEqProofs [*]) | (with_reducible refine gOps_or (fun hq => ?_) (fun hq => ?_) <;> (try simp at hq) <;> simp -implicitDefEqProofs [*]) | (with_reducible refine gOps_not (fun hq => ?_) (fun hq => ?_) <;> (try simp at hq) <;> simp -implicitDefEqProofs [*]) | (with_reducible refine gOps_split (fun hq => ?_) (fun hq => ?_) <;> (try simp at hq) <;> simp -implicitDefEqProofs [*]) | (with_reducible refine condC_dec (fun _ => ?_) (fun _ => ?_) <;> simp -implicitDefEqProofs [*]) | (with_reducible refine condC_ndec (fun _ => ?_) (fun _ => ?_) <;> simp -implicitDefEqProofs [*]) | (with_reducible refine condC_and (fun hq => ?_) (fun hq => ?_) <;> (try simp at hq) <;> simp -implicitDefEqProofs [*]) | (with_reducible refine condC_or (fun hq => ?_) (fun hq => ?_) <;> (try simp at hq) <;> simp -implicitDefEqProofs [*]) | (with_reducible refine condC_not (fun hq => ?_) (fun hq => ?_) <;> (try simp at hq) <;> simp -implicitDefEqProofs [*]) | (with_reducible refine condC_split (fun hq => ?_) (fun hq => ?_) <;> (try simp at hq) <;> simp -implicitDefEqProofs [*]) | (refine appK2_if (by omega) ?_; simp -implicitDefEqProofs [*]) | (refine pureV_if (by omega) ?_; simp -implicitDefEqProofs [*]))
    · simp [hk] at hbr
      subst hbr
      simp -implicitDefEqProofs [c_item_Best, zeroItem]
      repeat' (first | (refine callThen_of (by first | exact c1 | exact c2) ?_; simp -implicitDefEqProofs [*, hk]) | (with_reducible refine gOps_dec (fun _ => ?_) (fun _ => ?_) <;> simp -implicitDefEqProofs [*, hk]) | (with_reducible refine gOps_ndec (fun _ => ?_) (fun _ => ?_) <;> simp -implicitDefEqProofs [*, hk]) | (with_reducible refine gOps_and (fun hq => ?_) (fun hq => ?_) <;> (try simp at hq) <;> simp -implicitDefEqProofs [*, hk]) | (with_reducible refine gOps_or (fun hq => ?_) (fun hq => ?_) <;> (try simp at hq) <;> simp -implicitDefEqProofs [*, hk]) | (with_reducible refine gOps_not (fun hq => ?_) (fun hq => ?_) <;> (try simp at hq) <;> simp -implicitDefEqProofs [*, hk]) | (with_reducible refine gOps_split (fun hq => ?_) (fun hq => ?_) <;> (try simp at hq) <;> simp -implicitDefEqProofs [*, hk]) | (with_reducible refine condC_dec (fun _ => ?_) (fun _ => ?_) <;> simp -implicitDefEqProofs [*, hk]) | (with_reducible refine condC_ndec (fun _ => ?_) (fun _ => ?_) <;> simp -implicitDefEqProofs [*, hk]) | (with_reducible refine condC_and (fun hq => ?_) (fun hq => ?_) <;> (try simp at hq) <;> simp -implicitDefEqProofs [*, hk]) | (with_reducible refine condC_or (fun hq => ?_) (fun hq => ?_) <;> (try simp at hq) <;> simp -implicitDefEqProofs [*, hk]) | (with_reducible refine condC_not (fun hq => ?_) (fun hq => ?_) <;> (try simp at hq) <;> simp -implicitDefEqProofs [*, hk]) | (with_reducible refine condC_split (fun hq => ?_) (fun hq => ?_) <;> (try simp at hq) <;> simp -implicitDefEqProofs [*, hk]) | (refine appK2_if (by omega) ?_; simp -implicitDefEqProofs [*, hk]) | (refine pureV_if (by omega) ?_; simp -implicitDefEqProofs [*, hk]))
  all_goals
    clear c3 hv hw
    simp at hbr
    subst hbr
    simp -implicitDefEqProofs [c_item_Best, zeroItem]
    repeat' (first | (refine callThen_of (by first | exact c1 | exact c2) ?_; simp -implicitDefEqProofs [*]) | (with_reducible refine gOps_dec (fun _ => ?_) (fun _ => ?_) <;> simp -implicitDefEqProofs [*]) | (with_reducible refine gOps_ndec (fun _ => ?_) (fun _ => ?_) <;> simp -implicitDefEqProofs [*]) | (with_reducible refine gOps_and (fun hq => ?_) (fun hq => ?_) <;> (try simp at hq) <;> simp -implicitDefEqProofs [*]) | (with_reducible refine gOps_or (fun hq => ?_) (fun hq => ?_) <;> (try simp at hq) <;> simp -implicitDefEqProofs [*]) | (with_reducible refine gOps_not (fun hq => ?_) (fun hq => ?_) <;> (try simp at hq) <;> simp -implicitDefEqProofs [*]) | (with_reducible refine gOps_split (fun hq => ?_) (fun hq => ?_) <;> (try simp at hq) <;> simp -implicitDefEqProofs [*]) | (with_reducible refine condC_dec (fun _ => ?_) (fun _ => ?_) <;> simp -implicitDefEqProofs [*]) | (with_reducible refine condC_ndec (fun _ => ?_) (fun _ => ?_) <;> simp -implicitDefEqProofs [*]) | (with_reducible refine condC_and (fun hq => ?_) (fun hq => ?_) <;> (try simp at hq) <;> simp -implicitDefEqProofs [*]) | (with_reducible refine condC_or (fun hq => ?_) (fun hq => ?_) <;> (try simp at hq) <;> simp -implicitDefEqProofs [*]) | (with_reducible refine condC_not (fun hq => ?_) (fun hq => ?_) <;> (try simp at hq) <;> simp -implicitDefEqProofs [*]) | (with_reducible refine condC_split (fun hq => ?_) (fun hq => ?_) <;> (try simp at hq) <;> simp -implicitDefEqProofs [*]) | (refine appK2_if (by omega) ?_; simp -implicitDefEqProofs [*]) | (refine pureV_if (by omega) ?_; simp -implicitDefEqProofs [*]))
theorem store_byKey (x : Item) (k : Int) : Den PP 81 [.agg x.row, .int .i64 k] [] (.int .i64 (keyC k x)) [] := by
  refine den_of [] [] is_store_byKey ?_
  simp -implicitDefEqProofs [c_store_byKey, Item.row, keyC]
  repeat' (first | (refine callThen_of (by first | exact cmp_Compare _ _) ?_; simp -implicitDefEqProofs [*]) | (with_reducible refine gOps_dec (fun _ => ?_) (fun _ => ?_) <;> simp -implicitDefEqProofs [*]) | (with_reducible refine gOps_ndec (fun _ => ?_) (fun _ => ?_) <;> simp -implicitDefEqProofs [*]) | (with_reducible refine gOps_and (fun hq => ?_) (fun hq => ?_) <;> (try simp at hq) <;> simp -implicitDefEqProofs [*]) | (with_reducible refine gOps_or (fun hq => ?_) (fun hq => ?_) <;> (try simp at hq) <;> simp -implicitDefEqProofs [*]) | (with_reducible refine gOps_not (fun hq => ?_) (fun hq => ?_) <;> (try simp at hq) <;> simp -implicitDefEqProofs [*]) | (with_reducible refine gOps_split (fun hq => ?_) (fun hq => ?_) <;> (try simp at hq) <;> simp -implicitDefEqProofs [*]) | (with_reducible refine condC_dec (fun _ => ?_) (fun _ => ?_) <;> simp -implicitDefEqProofs [*]) | (with_reducible refine condC_ndec (fun _ => ?_) (fun _ => ?_) <;> simp -implicitDefEqProofs [*]) | (with_reducible refine condC_and (fun hq => ?_) (fun hq => ?_) <;> (try simp at hq) <;> simp -implicitDefEqProofs [*]) | (with_reducible refine condC_or (fun hq => ?_) (fun hq => ?_) <;> (try simp at hq) <;> simp -implicitDefEqProofs [*]) | (with_reducible refine condC_not (fun hq => ?_) (fun hq => ?_) <;> (try simp at hq) <;> simp -implicitDefEqProofs [*]) | (with_reducible refine condC_split (fun hq => ?_) (fun hq => ?_) <;> (try simp at hq) <;> simp -implicitDefEqProofs [*]) | (refine appK2_if (by omega) ?_; simp -implicitDefEqProofs [*]) | (refine pureV_if (by omega) ?_; simp -implicitDefEqProofs [*]))
theorem store_Get (is : List Item) (k : Int) (hl : is.length ≤ cap16) : Den PP 49 [itemsD is, .int .i64 k] [] (.tup [.agg (getR is k).1.row, .bool (getR is k).2]) [] := by
  have c1 := store_May is hl
  have c2 := fun h => bsearch_Item is 81 k (keyC k) (fun x _ => store_byKey x k) (by unfold cap; unfold cap16 at hl; omega) h
  simp only [itemsD] at c1
  refine den_of [] [] is_store_Get ?_
  simp -implicitDefEqProofs [c_store_Get, itemsD]
  refine callThen_of c1 ?_
  simp -implicitDefEqProofs
  refine condC_not (fun h1 => ?_) (fun h1 => ?_)
  rotate_left
  · simp -implicitDefEqProofs [h1, getR, zeroItem, Item.row]
  obtain ⟨hm, hr, h16⟩ := (storeMay_iff is).1 h1
  have hg := getS_at hr k
  have hat := fun h => atC_true (c := keyC k) (xs := is) h
  have c3 := c2 (mono_key hr k)
  clear c2 c1
  generalize atC (keyC k) is = A at *
  generalize posC (keyC k) is = p at *
  simp -implicitDefEqProofs [h1]
  refine callThen_of c3 ?_
  cases A with
  | false =>
    simp -implicitDefEqProofs [h1, hg, getR, zeroItem, Item.row]
  | true =>
    obtain ⟨hlt, x, hx, hx0⟩ := hat rfl
    have hlt' : (p : Int) < is.length := by omega
    simp at hg
    rw [hx] at hg
    have hxr : (is.map Item.row)[p]? = some x.row := by simp [hx]
    have hx2 : is[p] = x := by simpa [hlt] using hx
    simp -implicitDefEqProofs [h1, hg, getR, hlt', hlt, hx2, Item.row]
theorem ref_GetStore (is : List Item) (k : Int) (hl : is.length ≤ cap16) : Den PP 31 [itemsD is, .int .i64 k] [] (.tup [.agg (getR is k).1.row, .bool (getR is k).2]) [] := by
  have c1 := ref_StoreMay is hl
  simp only [itemsD] at c1
  unfold cap16 at hl
  refine den_of [] [] is_gimmalref1_GetStore ?_
  simp -implicitDefEqProofs [c_gimmalref1_GetStore, itemsD]
  obtain ⟨r, hr⟩ : ∃ r, getR is k = r := ⟨_, rfl⟩
  rw [hr]
  unfold getR at hr
  obtain ⟨S, hS⟩ : ∃ S, storeMay is = S := ⟨_, rfl⟩
  rw [hS] at hr c1
  refine list_rule is (fun i rest => fun ⟨fr, bs⟩ => bs = [⟨[zeroItem.row], 5, .box⟩] ∧ fr 0 = itemsD is ∧ fr 1 = .int .i64 k ∧ fr 4 = .ptr 0 0 0 ∧ fr 6 = .int .i64 i ∧ (S = true → getS is k = getS rest k))
    (fun ⟨fr, bs⟩ => bs = [⟨[zeroItem.row], 5, .box⟩] ∧ fr 4 = .ptr 0 0 0 ∧ (S = true → getS is k = none)) (fun ⟨fr, bs⟩ => bs = [⟨[r.1.row], 5, .box⟩] ∧ fr 4 = .ptr 0 0 0 ∧ fr 5 = .bool r.2) c_gimmalref1_GetStore_L0.eq_1 ?_ ?_ ?_ ?_ ?_
  · exact ⟨by simp [zeroItem, Item.row], rfl, rfl, rfl, rfl, fun _ => rfl⟩
  · rintro i ⟨fr, bs⟩ hi ⟨rfl, h0, h1, h4, h6, he⟩
    simp -implicitDefEqProofs [h0, h1, h4, h6, hi, itemsD]
    simpa [getS] using he
  · rintro i a rest ⟨fr, bs⟩ hlt hget hg hd hd2 ⟨rfl, h0, h1, h4, h6, he⟩
    have hlt' : (i : Int) < is.length := by omega
    have hw := wrap_next (n := i) (by omega)
    rw [getS_cons] at he
    simp -implicitDefEqProofs [h0, h1, h4, h6, hlt', itemsD]
    refine callThen_of c1 ?_
    cases S with
    | false =>
      simp -implicitDefEqProofs [h0, h1, h4, h6]
    | true =>
      simp only [forall_const] at he
      by_cases hk : a.key = k
      · rw [if_pos hk] at he
        rw [he] at hr
        simp at hr
        subst hr
        simp -implicitDefEqProofs [h0, h1, h4, h6, hlt, hlt', hget, hg, itemsD, hk, Item.row]
      · rw [if_neg hk] at he
        clear hr
        simp -implicitDefEqProofs [h0, h1, h4, h6, hlt, hlt', hget, hg, itemsD, hk, Item.row]
        exact ⟨hw, he⟩
  · rintro ⟨fr, bs⟩ ⟨rfl, h4, he⟩
    simp -implicitDefEqProofs [h4]
    cases S with
    | false => simp at hr; subst hr; simp [zeroItem, Item.row]
    | true => rw [he rfl] at hr; simp at hr; subst hr; simp [zeroItem, Item.row]
  · rintro ⟨fr, bs⟩ ⟨rfl, h4, h5⟩
    simp -implicitDefEqProofs [h4, h5, Item.row]
end Go.AM
/- AM: contracts: a store's put. -/
namespace Go.AM
set_option linter.unusedSimpArgs false
set_option linter.unusedVariables false
set_option maxRecDepth 8000
set_option maxHeartbeats 0
theorem row_still (i : Item) : ∀ d ∈ i.row, d.still = true := by
  intro d hd
  simp [Item.row] at hd
  rcases hd with rfl | rfl | rfl | rfl | rfl <;> rfl
theorem store_Put (is : List Item) (x : Item) (hl : is.length ≤ cap16) : Den PP 71 [itemsD is, .agg x.row] [] (.tup [.ref 0 0 (putR is x).1.length, .int .i64 (putR is x).2]) [⟨(putR is x).1.map Item.row, 5, .mut⟩] := by
  have c1 := store_May is hl
  have c0 := item_May x
  have c2 := fun h : is.length ≤ 16 => clone_Item (is.map Item.row) (by intro r hr; obtain ⟨a, _, rfl⟩ := List.mem_map.1 hr; exact ⟨rfl, rfl⟩) (by simp; omega)
  have c3 := fun h => bsearch_Item is 81 x.key (keyC x.key) (fun y _ => store_byKey y x.key) (by unfold cap; unfold cap16 at hl; omega) h
  obtain ⟨r, hr⟩ : ∃ r, putR is x = r := ⟨_, rfl⟩
  have hr' := hr
  unfold putR at hr'
  rw [hr]
  clear hr
  simp only [itemsD, Item.row, List.length_map] at c0 c1 c2
  refine den_ofG [18, 26] [26] [26] [] (fun _ h => absurd h List.not_mem_nil) is_store_Put ?_
  simp -implicitDefEqProofs [c_store_Put, itemsD, Item.row]
  refine callThen_of c1 ?_
  simp -implicitDefEqProofs
  cases h1 : storeMay is with
  | false =>
    rw [h1] at hr'
    simp at hr'
    subst hr'
    simp -implicitDefEqProofs
  | true =>
  cases h2 : itemMay x with
  | false =>
    rw [h2] at hr' c0
    simp at hr'
    subst hr'
    simp -implicitDefEqProofs
    repeat' (first | (refine callThen_of (by first | exact c0) ?_; simp -implicitDefEqProofs [*]) | (with_reducible refine gOps_dec (fun _ => ?_) (fun _ => ?_) <;> simp -implicitDefEqProofs [*]) | (with_reducible refine gOps_ndec (fun _ => ?_) (fun _ => ?_) <;> simp -implicitDefEqProofs [*]) | (with_reducible refine gOps_and (fun hq => ?_) (fun hq => ?_) <;> (try simp at hq) <;> simp -implicitDefEqProofs [*]) | (with_reducible refine gOps_or (fun hq => ?_) (fun hq => ?_) <;> (try simp at hq) <;> simp -implicitDefEqProofs [*]) | (with_reducible refine gOps_not (fun hq => ?_) (fun hq => ?_) <;> (try simp at hq) <;> simp -implicitDefEqProofs [*]) | (with_reducible refine gOps_split (fun hq => ?_) (fun hq => ?_) <;> (try simp at hq) <;> simp -implicitDefEqProofs [*]) | (with_reducible refine condC_dec (fun _ => ?_) (fun _ => ?_) <;> simp -implicitDefEqProofs [*]) | (with_reducible refine condC_ndec (fun _ => ?_) (fun _ => ?_) <;> simp -implicitDefEqProofs [*]) | (with_reducible refine condC_and (fun hq => ?_) (fun hq => ?_) <;> (try simp at hq) <;> simp -implicitDefEqProofs [*]) | (with_reducible refine condC_or (fun hq => ?_) (fun hq => ?_) <;> (try simp at hq) <;> simp -implicitDefEqProofs [*]) | (with_reducible refine condC_not (fun hq => ?_) (fun hq => ?_) <;> (try simp at hq) <;> simp -implicitDefEqProofs [*]) | (with_reducible refine condC_split (fun hq => ?_) (fun hq => ?_) <;> (try simp at hq) <;> simp -implicitDefEqProofs [*]) | (refine appK2_if (by omega) ?_; simp -implicitDefEqProofs [*]) | (refine pureV_if (by omega) ?_; simp -implicitDefEqProofs [*]))
  | true =>
  obtain ⟨hm, hri, h16⟩ := (storeMay_iff is).1 h1
  rw [h1, h2] at hr'
  rw [h2] at c0
  have hlen := putS_length x is hri
  have hg := getS_at hri x.key
  obtain ⟨hp1, hp2⟩ := putS_at x is
  have hat := fun h => atC_true (c := keyC x.key) (xs := is) h
  have hple := posC_le (keyC x.key) is
  have c4 := c3 (mono_key hri x.key)
  clear c3
  generalize atC (keyC x.key) is = A at *
  generalize posC (keyC x.key) is = p at *
  simp -implicitDefEqProofs
  refine callThen_of c0 ?_
  simp -implicitDefEqProofs
  refine callThen_of (c2 h16) ?_
  simp -implicitDefEqProofs [downTo]
  refine callThen_of c4 ?_
  simp -implicitDefEqProofs [downTo]
  cases A with
  | true =>
    obtain ⟨hlt, y, hy, hy0⟩ := hat rfl
    have hmy := hm y (List.mem_of_getElem? hy)
    have hky : y.key = x.key := by simpa [keyC, cmpI_eq] using hy0
    have c5 := item_Best y x
    have hbr : bestR y x = (bestI y x, 0) := by simp [bestR, hmy, h2, hky]
    have hput := hp1 y hy rfl
    rw [hbr] at c5
    have hr2 : r = (is.set p (bestI y x), 0) := by
      rw [← hr', hput]
      simp [h16]
    subst hr2
    have hlt' : (p : Int) < is.length := by omega
    have hy2 : is[p] = y := by simpa [hlt] using hy
    generalize bestI y x = b at *
    simp only [Item.row] at c5
    clear hr' hput hbr hg hp1 hp2 hat hlen c4 hm hri
    simp -implicitDefEqProofs [hlt, hlt', hy2, Item.row]
    refine callThen_of c5 ?_
    simp -implicitDefEqProofs [hlt, hlt', hy2, Item.row]
  | false =>
    have hput := hp2 rfl
    simp at hg
    rw [hg] at hlen
    simp at hlen
    rw [hput] at hr' hlen
    by_cases h5 : is.length = 16
    · have hr2 : r = ([], 501) := by
        rw [← hr']
        simp [h5]
      subst hr2
      clear hr' hput hg hp1 hp2 hat hlen c4 hm hri
      simp -implicitDefEqProofs [h5]
    · have hr2 : r = (insL is p x, 0) := by
        rw [← hr']
        simp
        omega
      subst hr2
      clear hr' hput hg hp1 hp2 hat hlen c4 hm hri
      have h5' : ¬ (is.length : Int) = 16 := by omega
      simp -implicitDefEqProofs [h5']
      refine giveThen_of rfl (by simp) (by simp) (by simp) (insert_Item (is.map Item.row) x.row p (by simp [Item.row]) (StillR.map _ _ fun a _ => row_still a) (by intro r hr; rw [List.mem_singleton.1 hr]; exact ⟨rfl, rfl⟩) (row_still x) (by simpa using hple) (by simp; omega)) ?_
      rw [← insL_map]
      simp -implicitDefEqProofs [downTo]
end Go.AM
/- AM: contracts: what chapter 9's statements build on. -/
namespace Go.AM
set_option linter.unusedSimpArgs false
set_option linter.unusedVariables false
set_option maxRecDepth 8000
set_option maxHeartbeats 0
def givenV : View := ⟨100, [⟨101, 2⟩, ⟨200, 0⟩, ⟨90, 1⟩], [7, 150]⟩
theorem small_givenV : givenV.small := by unfold View.small cap16 cap; decide
end Go.AM
/- AM: contracts: the document's nodes and sharing; chapter 18's helpers. -/
namespace Go.AM
set_option linter.unusedSimpArgs false
set_option linter.unusedVariables false
set_option maxRecDepth 8000
set_option maxHeartbeats 0
theorem ref_NodeMay (x : Node) (hs : x.small) : Den PP 32 [nodeD x] [] (.bool (nodeMay x)) [] := by
  obtain ⟨h1, h2, h3⟩ := hs
  have c1 := ref_ViewMay' x.view h1
  have c2 := ref_StoreMay x.items (by unfold cap16; omega)
  obtain ⟨A, hA⟩ : ∃ A, x.log.any toldOdd = A := ⟨_, rfl⟩
  simp only [viewD, View.cells, peersD, intsD, itemsD, toldsD] at c1 c2
  obtain ⟨hp, hq⟩ := h1
  unfold cap16 at hp
  unfold cap at hq
  have w1 : IntKind.wrap .i64 ((x.view.peers.length : Int) + x.view.passive.length) = x.view.peers.length + x.view.passive.length := wrap_in (by omega) (by omega)
  have w2 : IntKind.wrap .i64 ((x.view.peers.length : Int) + x.view.passive.length + x.items.length) = x.view.peers.length + x.view.passive.length + x.items.length := wrap_in (by omega) (by omega)
  have w3 : IntKind.wrap .i64 ((x.view.peers.length : Int) + x.view.passive.length + x.items.length + x.log.length) = x.view.peers.length + x.view.passive.length + x.items.length + x.log.length := wrap_in (by omega) (by omega)
  refine den_of [] [] is_gimmalref16_NodeMay ?_
  cases hu : x.up with
  | false =>
    have hm : nodeMay x = (emptyN x && place x.view.id) := by
      cases he : emptyN x with
      | false => simp [nodeMay, hu, he]
      | true =>
        simp only [emptyN, decide_eq_true_eq] at he
        have e1 : x.view.peers = [] := List.eq_nil_of_length_eq_zero (by omega)
        have e2 : x.view.passive = [] := List.eq_nil_of_length_eq_zero (by omega)
        have e3 : x.items = [] := List.eq_nil_of_length_eq_zero (by omega)
        have e4 : x.log = [] := List.eq_nil_of_length_eq_zero (by omega)
        simp [nodeMay, emptyN, hu, e1, e2, e3, e4, viewMay, peersMay, peersOk, passiveMay, ups, storeMay, itemsOk]
    simp -implicitDefEqProofs [c_gimmalref16_NodeMay, nodeD, Node.cells, peersD, intsD, itemsD, toldsD, hu]
    repeat' (first | (refine callThen_of (by first | exact ref_PlaceMay _) ?_; simp -implicitDefEqProofs [*, w1, w2, w3]) | (with_reducible refine gOps_dec (fun _ => ?_) (fun _ => ?_) <;> simp -implicitDefEqProofs [*, w1, w2, w3]) | (with_reducible refine gOps_ndec (fun _ => ?_) (fun _ => ?_) <;> simp -implicitDefEqProofs [*, w1, w2, w3]) | (with_reducible refine gOps_and (fun hq => ?_) (fun hq => ?_) <;> (try simp at hq) <;> simp -implicitDefEqProofs [*, w1, w2, w3]) | (with_reducible refine gOps_or (fun hq => ?_) (fun hq => ?_) <;> (try simp at hq) <;> simp -implicitDefEqProofs [*, w1, w2, w3]) | (with_reducible refine gOps_not (fun hq => ?_) (fun hq => ?_) <;> (try simp at hq) <;> simp -implicitDefEqProofs [*, w1, w2, w3]) | (with_reducible refine gOps_split (fun hq => ?_) (fun hq => ?_) <;> (try simp at hq) <;> simp -implicitDefEqProofs [*, w1, w2, w3]) | (with_reducible refine condC_dec (fun _ => ?_) (fun _ => ?_) <;> simp -implicitDefEqProofs [*, w1, w2, w3]) | (with_reducible refine condC_ndec (fun _ => ?_) (fun _ => ?_) <;> simp -implicitDefEqProofs [*, w1, w2, w3]) | (with_reducible refine condC_and (fun hq => ?_) (fun hq => ?_) <;> (try simp at hq) <;> simp -implicitDefEqProofs [*, w1, w2, w3]) | (with_reducible refine condC_or (fun hq => ?_) (fun hq => ?_) <;> (try simp at hq) <;> simp -implicitDefEqProofs [*, w1, w2, w3]) | (with_reducible refine condC_not (fun hq => ?_) (fun hq => ?_) <;> (try simp at hq) <;> simp -implicitDefEqProofs [*, w1, w2, w3]) | (with_reducible refine condC_split (fun hq => ?_) (fun hq => ?_) <;> (try simp at hq) <;> simp -implicitDefEqProofs [*, w1, w2, w3]) | (refine appK2_if (by omega) ?_; simp -implicitDefEqProofs [*, w1, w2, w3]) | (refine pureV_if (by omega) ?_; simp -implicitDefEqProofs [*, w1, w2, w3]))
    all_goals grind [emptyN]
  | true =>
    simp -implicitDefEqProofs [c_gimmalref16_NodeMay, nodeD, Node.cells, peersD, intsD, itemsD, toldsD, hu]
    refine list_rule x.log (fun i rest => fun ⟨fr, bs⟩ => bs = [⟨[x.cells], 6, .box⟩] ∧ fr 1 = .ptr 0 0 0 ∧ fr 3 = .int .i64 i ∧ rest.any toldOdd = A)
      (fun ⟨fr, bs⟩ => bs = [⟨[x.cells], 6, .box⟩] ∧ fr 1 = .ptr 0 0 0 ∧ A = false) (fun ⟨fr, bs⟩ => fr 2 = .bool false ∧ A = true) c_gimmalref16_NodeMay_L0.eq_1 ?_ ?_ ?_ ?_ ?_
    · refine ⟨?_, rfl, rfl, hA⟩
      simp [Node.cells, hu, peersD, intsD, itemsD, toldsD]
    · rintro i ⟨fr, bs⟩ hi ⟨rfl, h1, h3, he⟩
      simp -implicitDefEqProofs [h1, h3, hi, Node.cells, toldsD]
      simpa using he.symm
    · rintro i a rest ⟨fr, bs⟩ hlt hget hg hd hd2 ⟨rfl, h1, h3, he⟩
      have hlt' : (i : Int) < x.log.length := by omega
      have hw := wrap_next (n := i) (by omega)
      have hodd : toldOdd a = (!byte a.key || !byte a.value || (!a.has && !decide (a.value = 0))) := rfl
      simp -implicitDefEqProofs [h1, h3, hlt, hlt', hget, hg, Node.cells, peersD, intsD, itemsD, toldsD, Told.row]
      repeat' (first | (refine callThen_of (by first | exact ref16_byteMay _) ?_; simp -implicitDefEqProofs [*, Node.cells, peersD, intsD, itemsD, toldsD, Told.row, hw]) | (with_reducible refine gOps_dec (fun _ => ?_) (fun _ => ?_) <;> simp -implicitDefEqProofs [*, Node.cells, peersD, intsD, itemsD, toldsD, Told.row, hw]) | (with_reducible refine gOps_ndec (fun _ => ?_) (fun _ => ?_) <;> simp -implicitDefEqProofs [*, Node.cells, peersD, intsD, itemsD, toldsD, Told.row, hw]) | (with_reducible refine gOps_and (fun hq => ?_) (fun hq => ?_) <;> (try simp at hq) <;> simp -implicitDefEqProofs [*, Node.cells, peersD, intsD, itemsD, toldsD, Told.row, hw]) | (with_reducible refine gOps_or (fun hq => ?_) (fun hq => ?_) <;> (try simp at hq) <;> simp -implicitDefEqProofs [*, Node.cells, peersD, intsD, itemsD, toldsD, Told.row, hw]) | (with_reducible refine gOps_not (fun hq => ?_) (fun hq => ?_) <;> (try simp at hq) <;> simp -implicitDefEqProofs [*, Node.cells, peersD, intsD, itemsD, toldsD, Told.row, hw]) | (with_reducible refine gOps_split (fun hq => ?_) (fun hq => ?_) <;> (try simp at hq) <;> simp -implicitDefEqProofs [*, Node.cells, peersD, intsD, itemsD, toldsD, Told.row, hw]) | (with_reducible refine condC_dec (fun _ => ?_) (fun _ => ?_) <;> simp -implicitDefEqProofs [*, Node.cells, peersD, intsD, itemsD, toldsD, Told.row, hw]) | (with_reducible refine condC_ndec (fun _ => ?_) (fun _ => ?_) <;> simp -implicitDefEqProofs [*, Node.cells, peersD, intsD, itemsD, toldsD, Told.row, hw]) | (with_reducible refine condC_and (fun hq => ?_) (fun hq => ?_) <;> (try simp at hq) <;> simp -implicitDefEqProofs [*, Node.cells, peersD, intsD, itemsD, toldsD, Told.row, hw]) | (with_reducible refine condC_or (fun hq => ?_) (fun hq => ?_) <;> (try simp at hq) <;> simp -implicitDefEqProofs [*, Node.cells, peersD, intsD, itemsD, toldsD, Told.row, hw]) | (with_reducible refine condC_not (fun hq => ?_) (fun hq => ?_) <;> (try simp at hq) <;> simp -implicitDefEqProofs [*, Node.cells, peersD, intsD, itemsD, toldsD, Told.row, hw]) | (with_reducible refine condC_split (fun hq => ?_) (fun hq => ?_) <;> (try simp at hq) <;> simp -implicitDefEqProofs [*, Node.cells, peersD, intsD, itemsD, toldsD, Told.row, hw]) | (refine appK2_if (by omega) ?_; simp -implicitDefEqProofs [*, Node.cells, peersD, intsD, itemsD, toldsD, Told.row, hw]) | (refine pureV_if (by omega) ?_; simp -implicitDefEqProofs [*, Node.cells, peersD, intsD, itemsD, toldsD, Told.row, hw]))
      all_goals grind
    · rintro ⟨fr, bs⟩ ⟨rfl, h1, he⟩
      simp -implicitDefEqProofs [h1, he, Node.cells, peersD, intsD, itemsD, toldsD]
      repeat' (first | (refine callThen_of (by first | exact c1 | exact c2) ?_; simp -implicitDefEqProofs [*]) | (with_reducible refine gOps_dec (fun _ => ?_) (fun _ => ?_) <;> simp -implicitDefEqProofs [*]) | (with_reducible refine gOps_ndec (fun _ => ?_) (fun _ => ?_) <;> simp -implicitDefEqProofs [*]) | (with_reducible refine gOps_and (fun hq => ?_) (fun hq => ?_) <;> (try simp at hq) <;> simp -implicitDefEqProofs [*]) | (with_reducible refine gOps_or (fun hq => ?_) (fun hq => ?_) <;> (try simp at hq) <;> simp -implicitDefEqProofs [*]) | (with_reducible refine gOps_not (fun hq => ?_) (fun hq => ?_) <;> (try simp at hq) <;> simp -implicitDefEqProofs [*]) | (with_reducible refine gOps_split (fun hq => ?_) (fun hq => ?_) <;> (try simp at hq) <;> simp -implicitDefEqProofs [*]) | (with_reducible refine condC_dec (fun _ => ?_) (fun _ => ?_) <;> simp -implicitDefEqProofs [*]) | (with_reducible refine condC_ndec (fun _ => ?_) (fun _ => ?_) <;> simp -implicitDefEqProofs [*]) | (with_reducible refine condC_and (fun hq => ?_) (fun hq => ?_) <;> (try simp at hq) <;> simp -implicitDefEqProofs [*]) | (with_reducible refine condC_or (fun hq => ?_) (fun hq => ?_) <;> (try simp at hq) <;> simp -implicitDefEqProofs [*]) | (with_reducible refine condC_not (fun hq => ?_) (fun hq => ?_) <;> (try simp at hq) <;> simp -implicitDefEqProofs [*]) | (with_reducible refine condC_split (fun hq => ?_) (fun hq => ?_) <;> (try simp at hq) <;> simp -implicitDefEqProofs [*]) | (refine appK2_if (by omega) ?_; simp -implicitDefEqProofs [*]) | (refine pureV_if (by omega) ?_; simp -implicitDefEqProofs [*]))
      all_goals simp only [nodeMay, hA, he, hu]
      all_goals grind
    · rintro ⟨fr, bs⟩ h
      simp -implicitDefEqProofs [h.1, h.2, nodeMay, hA]
theorem ref_upMay (x : Node) (hs : x.small) : Den PP 52 [nodeD x] [] (.bool (nodeUp x)) [] := by
  have c1 := ref_NodeMay x hs
  simp only [nodeD, Node.cells, peersD, intsD, itemsD, toldsD] at c1
  refine den_of [] [] is_gimmalref16_upMay ?_
  cases hu : x.up
  all_goals
    rw [hu] at c1
    simp -implicitDefEqProofs [c_gimmalref16_upMay, nodeD, Node.cells, peersD, intsD, itemsD, toldsD, hu]
    repeat' (first | (refine callThen_of (by first | exact c1) ?_; simp -implicitDefEqProofs [*]) | (with_reducible refine gOps_dec (fun _ => ?_) (fun _ => ?_) <;> simp -implicitDefEqProofs [*]) | (with_reducible refine gOps_ndec (fun _ => ?_) (fun _ => ?_) <;> simp -implicitDefEqProofs [*]) | (with_reducible refine gOps_and (fun hq => ?_) (fun hq => ?_) <;> (try simp at hq) <;> simp -implicitDefEqProofs [*]) | (with_reducible refine gOps_or (fun hq => ?_) (fun hq => ?_) <;> (try simp at hq) <;> simp -implicitDefEqProofs [*]) | (with_reducible refine gOps_not (fun hq => ?_) (fun hq => ?_) <;> (try simp at hq) <;> simp -implicitDefEqProofs [*]) | (with_reducible refine gOps_split (fun hq => ?_) (fun hq => ?_) <;> (try simp at hq) <;> simp -implicitDefEqProofs [*]) | (with_reducible refine condC_dec (fun _ => ?_) (fun _ => ?_) <;> simp -implicitDefEqProofs [*]) | (with_reducible refine condC_ndec (fun _ => ?_) (fun _ => ?_) <;> simp -implicitDefEqProofs [*]) | (with_reducible refine condC_and (fun hq => ?_) (fun hq => ?_) <;> (try simp at hq) <;> simp -implicitDefEqProofs [*]) | (with_reducible refine condC_or (fun hq => ?_) (fun hq => ?_) <;> (try simp at hq) <;> simp -implicitDefEqProofs [*]) | (with_reducible refine condC_not (fun hq => ?_) (fun hq => ?_) <;> (try simp at hq) <;> simp -implicitDefEqProofs [*]) | (with_reducible refine condC_split (fun hq => ?_) (fun hq => ?_) <;> (try simp at hq) <;> simp -implicitDefEqProofs [*]) | (refine appK2_if (by omega) ?_; simp -implicitDefEqProofs [*]) | (refine pureV_if (by omega) ?_; simp -implicitDefEqProofs [*]))
    all_goals simp [nodeUp, hu]
def spoilM (m : Msg) : Msg := { m with kind := IntKind.wrap .i64 (BitVec.ofInt IntKind.i64.bits m.kind ^^^ BitVec.ofInt IntKind.i64.bits 90).toNat }
theorem law_SpoilMsgs (ms : List Msg) (hl : ms.length ≤ cap16) : Den PP 26 [.ref 0 0 ms.length] [⟨ms.map Msg.row0, 11, .mut⟩] (.tup []) [⟨(ms.map spoilM).map Msg.row0, 11, .mut⟩] := by
  unfold cap16 at hl
  refine den_of [] [] is_gimmallaw0_SpoilMsgs ?_
  simp -implicitDefEqProofs [c_gimmallaw0_SpoilMsgs]
  refine list_rule ms (fun i rest => fun ⟨fr, bs⟩ => ∃ done, bs = [⟨(done ++ rest).map Msg.row0, 11, .mut⟩] ∧ done.length = i ∧ done ++ rest.map spoilM = ms.map spoilM ∧ fr 0 = .ref 0 0 ms.length ∧ fr 2 = .int .i64 i)
    (fun ⟨fr, bs⟩ => bs = [⟨(ms.map spoilM).map Msg.row0, 11, .mut⟩]) (fun ⟨fr, bs⟩ => False) c_gimmallaw0_SpoilMsgs_L0.eq_1 ?_ ?_ ?_ ?_ ?_
  · exact ⟨[], rfl, rfl, rfl, rfl, rfl⟩
  · rintro i ⟨fr, bs⟩ hi ⟨done, rfl, hd, he, h0, h2⟩
    simp -implicitDefEqProofs [h0, h2, hi]
    simp at he
    simp [he]
  · rintro i a rest ⟨fr, bs⟩ hlt hget hg hd hd2 ⟨done, rfl, hdl, he, h0, h2⟩
    have hlt' : (i : Int) < ms.length := by omega
    have hw := wrap_next (n := i) (by omega)
    have h3 : ∀ r, (done.map Msg.row0 ++ r :: rest.map Msg.row0)[i]? = some r := by intro r; simp [← hdl]
    have h4 : ∀ r r', (done.map Msg.row0 ++ r' :: rest.map Msg.row0).set i r = done.map Msg.row0 ++ r :: rest.map Msg.row0 := by intro r r'; simp [← hdl]
    simp -implicitDefEqProofs [h0, h2, hlt', h3, Msg.row0]
    refine callThen_of law_SpoilInts_nil ?_
    simp -implicitDefEqProofs [h0, h2, hlt', h3, h4, Msg.row0, hw, reach, downTo]
    exact ⟨done ++ [spoilM a], by simp [Msg.row0, spoilM]; rfl, by simp [hdl], by simpa using he⟩
  · rintro ⟨fr, bs⟩ rfl
    simp -implicitDefEqProofs
  · rintro ⟨fr, bs⟩ h
    exact h.elim
end Go.AM
/- AM: what is handed in, told. -/
namespace Go.AM
set_option linter.unusedSimpArgs false
set_option linter.unusedVariables false
set_option maxRecDepth 8000
theorem tell_int {n : Nat} {cs : List D} (h : Tell TT (n + 1) 3 cs) : ∃ x, cs = [.int .i64 x] ∧ in64 x := by
  simp [Tell] at h
  obtain ⟨x, rfl, hx⟩ := h
  exact ⟨x, rfl, wf64 hx⟩
theorem tell_bool {n : Nat} {cs : List D} (h : Tell TT (n + 1) 4 cs) : ∃ x, cs = [.bool x] := by
  simpa [Tell] using h
theorem tell_ints {n : Nat} {cs : List D} (h : Tell TT (n + 2) 23 cs) : ∃ xs : List Int, cs = [intsD xs] ∧ xs.length * 8 ≤ 140737488351232 ∧ ∀ x ∈ xs, in64 x := by
  unfold Tell at h
  simp at h
  obtain ⟨rows, rfl, hl, hr⟩ := h
  obtain ⟨xs, rfl, hx⟩ := rows_of (f := irow) (Q := in64) rows fun r h => by
    obtain ⟨x, rfl, hx⟩ := tell_int (hr r h)
    exact ⟨x, rfl, hx⟩
  exact ⟨xs, by simp [intsD], by simpa using hl, hx⟩
theorem tell_Peer {n : Nat} {cs : List D} (h : Tell TT (n + 2) 102 cs) : ∃ p : Peer, cs = p.row ∧ in64 p.id ∧ in64 p.missed := by
  unfold Tell at h
  simp [Tell.TellFs] at h
  obtain ⟨a, b, rfl, h1, h2⟩ := h
  obtain ⟨x, rfl, hx⟩ := tell_int h1
  obtain ⟨y, rfl, hy⟩ := tell_int h2
  exact ⟨⟨x, y⟩, rfl, hx, hy⟩
theorem tell_peers {n : Nat} {cs : List D} (h : Tell TT (n + 3) 22 cs) : ∃ ps : List Peer, cs = [peersD ps] ∧ ps.length * 16 ≤ 140737488351232 ∧ ∀ p ∈ ps, in64 p.id ∧ in64 p.missed := by
  unfold Tell at h
  simp at h
  obtain ⟨rows, rfl, hl, hr⟩ := h
  obtain ⟨xs, rfl, hx⟩ := rows_of (f := Peer.row) (Q := fun p => in64 p.id ∧ in64 p.missed) rows fun r h => tell_Peer (hr r h)
  exact ⟨xs, by simp [peersD], by simpa using hl, hx⟩
def View.tame (v : View) : Prop := v.peers.length * 16 ≤ 140737488351232 ∧ v.passive.length * 8 ≤ 140737488351232 ∧ in64 v.id ∧ (∀ p ∈ v.peers, in64 p.id ∧ in64 p.missed) ∧ ∀ x ∈ v.passive, in64 x
theorem View.tame.small {v : View} (h : v.tame) : v.small := by
  obtain ⟨h1, h2, _⟩ := h
  unfold View.small cap16 cap
  omega
theorem tell_View {n : Nat} {cs : List D} (h : Tell TT (n + 4) 25 cs) : ∃ v : View, cs = v.cells ∧ v.tame := by
  unfold Tell at h
  simp [Tell.TellFs] at h
  obtain ⟨a, r, rfl, h1, b, c, rfl, h2, h3⟩ := h
  obtain ⟨x, rfl, hx⟩ := tell_int h1
  obtain ⟨ps, rfl, hp, hp2⟩ := tell_peers h2
  obtain ⟨xs, rfl, hq, hq2⟩ := tell_ints h3
  exact ⟨⟨x, ps, xs⟩, rfl, hp, hq, hx, hp2, hq2⟩
theorem tell_Version {n : Nat} {cs : List D} (h : Tell TT (n + 2) 31 cs) : ∃ c w : Int, cs = [.int .i64 c, .int .i64 w] ∧ in64 c ∧ in64 w := by
  unfold Tell at h
  simp [Tell.TellFs] at h
  obtain ⟨a, b, rfl, h1, h2⟩ := h
  obtain ⟨x, rfl, hx⟩ := tell_int h1
  obtain ⟨y, rfl, hy⟩ := tell_int h2
  exact ⟨x, y, rfl, hx, hy⟩
def Item.tame (i : Item) : Prop := in64 i.key ∧ in64 i.count ∧ in64 i.writer ∧ in64 i.value
theorem tell_Item {n : Nat} {cs : List D} (h : Tell TT (n + 3) 33 cs) : ∃ i : Item, cs = i.row ∧ i.tame := by
  unfold Tell at h
  simp [Tell.TellFs] at h
  obtain ⟨a, r1, rfl, h1, b, r2, rfl, h2, c, d, rfl, h3, h4⟩ := h
  obtain ⟨x, rfl, hx⟩ := tell_int h1
  obtain ⟨y, z, rfl, hy, hz⟩ := tell_Version h2
  obtain ⟨u, rfl, hu⟩ := tell_int h3
  obtain ⟨g, rfl⟩ := tell_bool h4
  exact ⟨⟨x, y, z, u, g⟩, rfl, hx, hy, hz, hu⟩
theorem tell_items {n : Nat} {cs : List D} (h : Tell TT (n + 4) 26 cs) : ∃ is : List Item, cs = [itemsD is] ∧ is.length * 40 ≤ 140737488351232 ∧ ∀ i ∈ is, i.tame := by
  unfold Tell at h
  simp at h
  obtain ⟨rows, rfl, hl, hr⟩ := h
  obtain ⟨xs, rfl, hx⟩ := rows_of (f := Item.row) (Q := Item.tame) rows fun r h => tell_Item (hr r h)
  exact ⟨xs, by simp [itemsD], by simpa using hl, hx⟩
theorem tell_Told {n : Nat} {cs : List D} (h : Tell TT (n + 2) 66 cs) : ∃ t : Told, cs = t.row ∧ in64 t.key ∧ in64 t.value := by
  unfold Tell at h
  simp [Tell.TellFs] at h
  obtain ⟨a, r1, rfl, h1, b, c, rfl, h2, h3⟩ := h
  obtain ⟨x, rfl, hx⟩ := tell_int h1
  obtain ⟨g, rfl⟩ := tell_bool h2
  obtain ⟨u, rfl, hu⟩ := tell_int h3
  exact ⟨⟨x, g, u⟩, rfl, hx, hu⟩
theorem tell_tolds {n : Nat} {cs : List D} (h : Tell TT (n + 3) 27 cs) : ∃ ts : List Told, cs = [toldsD ts] ∧ ts.length * 24 ≤ 140737488351232 ∧ ∀ t ∈ ts, in64 t.key ∧ in64 t.value := by
  unfold Tell at h
  simp at h
  obtain ⟨rows, rfl, hl, hr⟩ := h
  obtain ⟨xs, rfl, hx⟩ := rows_of (f := Told.row) (Q := fun t => in64 t.key ∧ in64 t.value) rows fun r h => tell_Told (hr r h)
  exact ⟨xs, by simp [toldsD], by simpa using hl, hx⟩
def Node.tame (x : Node) : Prop := x.view.tame ∧ x.items.length * 40 ≤ 140737488351232 ∧ (∀ i ∈ x.items, i.tame) ∧ x.log.length * 24 ≤ 140737488351232 ∧ ∀ t ∈ x.log, in64 t.key ∧ in64 t.value
theorem Node.tame.small {x : Node} (h : x.tame) : x.small := ⟨h.1.small, h.2.1, h.2.2.2.1⟩
theorem tell_Node {n : Nat} {cs : List D} (h : Tell TT (n + 5) 29 cs) : ∃ x : Node, cs = x.cells ∧ x.tame := by
  unfold Tell at h
  simp [Tell.TellFs] at h
  obtain ⟨a, r1, rfl, h1, b, r2, rfl, h2, c, d, rfl, h3, h4⟩ := h
  obtain ⟨u, rfl⟩ := tell_bool h1
  obtain ⟨v, rfl, hv⟩ := tell_View h2
  obtain ⟨is, rfl, h5, h6⟩ := tell_items h3
  obtain ⟨ts, rfl, h7, h8⟩ := tell_tolds h4
  exact ⟨⟨u, v, is, ts⟩, rfl, hv, h5, h6, h7, h8⟩
theorem arg_Node {n : Nat} {d : D} (h : TellArg TT (n + 5) 29 d) : ∃ x : Node, d = nodeD x ∧ x.tame := by
  simp [TellArg] at h
  obtain ⟨cs, rfl, h⟩ := h
  obtain ⟨v, rfl, hv⟩ := tell_Node h
  exact ⟨v, rfl, hv⟩
theorem arg_Item {n : Nat} {d : D} (h : TellArg TT (n + 3) 33 d) : ∃ x : Item, d = .agg x.row ∧ x.tame := by
  simp [TellArg] at h
  obtain ⟨cs, rfl, h⟩ := h
  obtain ⟨v, rfl, hv⟩ := tell_Item h
  exact ⟨v, rfl, hv⟩
theorem arg_items {n : Nat} {d : D} (h : TellArg TT (n + 4) 26 d) : ∃ x : List Item, d = itemsD x ∧ x.length * 40 ≤ 140737488351232 ∧ ∀ i ∈ x, i.tame := by
  simp [TellArg] at h
  obtain ⟨xs, hx, h2⟩ := tell_items h
  simp at hx
  exact ⟨xs, hx, h2⟩
theorem arg_ints {n : Nat} {d : D} (h : TellArg TT (n + 2) 23 d) : ∃ x : List Int, d = intsD x ∧ x.length * 8 ≤ 140737488351232 ∧ ∀ i ∈ x, in64 i := by
  simp [TellArg] at h
  obtain ⟨xs, hx, h2⟩ := tell_ints h
  simp at hx
  exact ⟨xs, hx, h2⟩
theorem arg_peers {n : Nat} {d : D} (h : TellArg TT (n + 3) 22 d) : ∃ x : List Peer, d = peersD x ∧ x.length * 16 ≤ 140737488351232 ∧ ∀ p ∈ x, in64 p.id ∧ in64 p.missed := by
  simp [TellArg] at h
  obtain ⟨xs, hx, h2⟩ := tell_peers h
  simp at hx
  exact ⟨xs, hx, h2⟩
theorem arg_bool {n : Nat} {d : D} (h : TellArg TT (n + 1) 4 d) : ∃ x, d = .bool x ∧ True := by
  simp [TellArg] at h
  obtain ⟨x, hx⟩ := tell_bool h
  simp at hx
  exact ⟨x, hx, trivial⟩
theorem arg_int {n : Nat} {d : D} (h : TellArg TT (n + 1) 3 d) : ∃ x, d = .int .i64 x ∧ in64 x := by
  simp [TellArg] at h
  obtain ⟨x, hx, h2⟩ := tell_int h
  simp at hx
  exact ⟨x, hx, h2⟩
theorem arg_View {n : Nat} {d : D} (h : TellArg TT (n + 4) 25 d) : ∃ v : View, d = viewD v ∧ v.tame := by
  simp [TellArg] at h
  obtain ⟨cs, rfl, h⟩ := h
  obtain ⟨v, rfl, hv⟩ := tell_View h
  exact ⟨v, rfl, hv⟩
end Go.AM
/- Plain law: stores: put twice, in another row. -/
namespace Go.AM
set_option linter.unusedSimpArgs false
set_option linter.unusedVariables false

theorem getS_keyO {is : List Item} {k : Int} : ∀ i, getS is k = some i → i.key = k := fun _ h => (getS_key h).1
theorem joinO_assoc {k : Int} {a b c : Option Item} (ha : ∀ i, a = some i → i.key = k) (hb : ∀ i, b = some i → i.key = k) (hc : ∀ i, c = some i → i.key = k) : joinO (joinO a b) c = joinO a (joinO b c) := by
  cases a with
  | none => cases b <;> rfl
  | some a =>
    cases b with
    | none => cases c <;> rfl
    | some b =>
      cases c with
      | none => rfl
      | some c => simp only [joinO]; rw [bestI_assoc ((ha a rfl).trans (hb b rfl).symm) ((hb b rfl).trans (hc c rfl).symm)]
theorem joinO_key {k : Int} {a b : Option Item} (ha : ∀ i, a = some i → i.key = k) (hb : ∀ i, b = some i → i.key = k) : ∀ i, joinO a b = some i → i.key = k := by
  intro i h
  cases a with
  | none => exact hb i h
  | some a =>
    cases b with
    | none => exact ha i h
    | some b =>
      simp only [joinO, Option.some.injEq] at h
      rcases bestI_or a b with e | e <;> rw [e] at h <;> subst h
      · exact ha _ rfl
      · exact hb _ rfl
theorem some_key {x : Item} {k : Int} (h : k = x.key) : ∀ i, some x = some i → i.key = k := by
  intro i e
  cases e
  exact h.symm
theorem putS_swap {is : List Item} (hr : risingK is) (x y : Item) : putS x (putS y is) = putS y (putS x is) := by
  refine getS_ext _ _ (putS_rising (putS_rising hr)) (putS_rising (putS_rising hr)) fun k => ?_
  rw [getS_putS x _ (putS_rising hr), getS_putS y _ hr, getS_putS y _ (putS_rising hr), getS_putS x _ hr]
  by_cases h1 : k = x.key <;> by_cases h2 : k = y.key
  · rw [if_pos h1, if_pos h2, if_pos h2, if_pos h1, joinO_assoc getS_keyO (some_key h2) (some_key h1), joinO_assoc getS_keyO (some_key h1) (some_key h2), joinO_comm (some_key h2) (some_key h1)]
  · rw [if_pos h1, if_neg h2, if_neg h2, if_pos h1]
  · rw [if_neg h1, if_pos h2, if_pos h2, if_neg h1]
  · rw [if_neg h1, if_neg h2, if_neg h2, if_neg h1]
theorem putS_self {is : List Item} (hr : risingK is) (x : Item) : putS x (putS x is) = putS x is := by
  refine getS_ext _ _ (putS_rising (putS_rising hr)) (putS_rising hr) fun k => ?_
  rw [getS_putS x _ (putS_rising hr), getS_putS x _ hr]
  by_cases h1 : k = x.key
  · simp only [if_pos h1]
    rw [joinO_assoc getS_keyO (some_key h1) (some_key h1)]
    congr 1
    simp [joinO, bestI_self]
  · simp only [if_neg h1]
theorem putS_in {is : List Item} (hr : risingK is) {y : Item} (hy : y ∈ is) : putS y is = is := by
  refine getS_ext _ _ (putS_rising hr) hr fun k => ?_
  rw [getS_putS y _ hr]
  by_cases h1 : k = y.key
  · rw [if_pos h1, h1, getS_mem hr hy]
    simp [joinO, bestI_self]
  · rw [if_neg h1]
theorem putS_mem2 {is : List Item} (hr : risingK is) (x : Item) {y : Item} (hy : y ∈ is) : putS y (putS x is) = putS x is := by
  rw [putS_swap hr, putS_in hr hy]
/-- What a row of puts comes to. -/
def putsS (is : List Item) (js : List Item) : List Item := js.foldl (fun s x => putS x s) is
theorem putsS_cons (is : List Item) (x : Item) (js : List Item) : putsS is (x :: js) = putsS (putS x is) js := rfl
theorem putsS_snoc (is js : List Item) (x : Item) : putsS is (js ++ [x]) = putS x (putsS is js) := by simp [putsS]
theorem putsS_rising {is : List Item} (hr : risingK is) : ∀ js, risingK (putsS is js) := by
  intro js
  induction js generalizing is with
  | nil => exact hr
  | cons x js ih => exact ih (putS_rising hr)
theorem putsS_length (is js : List Item) : (putsS is js).length ≤ is.length + js.length := by
  induction js generalizing is with
  | nil => simp [putsS]
  | cons x js ih =>
    rw [putsS_cons]
    have h1 := ih (putS x is)
    have h2 := (putS_length_le x is).2
    simp at h1 ⊢
    omega
theorem putsS_perm {js ks : List Item} (h : js.Perm ks) : ∀ {is : List Item}, risingK is → putsS is js = putsS is ks := by
  induction h with
  | nil => intro is _; rfl
  | cons x _ ih => intro is hr; exact ih (putS_rising hr)
  | swap x y l =>
    intro is hr
    simp only [putsS_cons]
    rw [putS_swap hr]
  | trans _ _ ih1 ih2 => intro is hr; rw [ih1 hr, ih2 hr]
theorem putsS_mem {i : Item} : ∀ {js is : List Item}, i ∈ putsS is js → i ∈ is ∨ i ∈ js := by
  intro js
  induction js with
  | nil => intro is h; exact .inl h
  | cons x js ih =>
    intro is h
    rcases ih h with h | h
    · rcases putS_mem h with h | h
      · exact .inr (by simp [h])
      · exact .inl h
    · exact .inr (List.mem_cons_of_mem _ h)
theorem puts_may {is js : List Item} (h1 : storeMay is = true) (h2 : ∀ j ∈ js, itemMay j = true) (h3 : is.length + js.length ≤ 16) : storeMay (putsS is js) = true := by
  obtain ⟨hm, hr, hl⟩ := (storeMay_iff is).1 h1
  refine (storeMay_iff _).2 ⟨fun i hi => ?_, putsS_rising hr js, ?_⟩
  · rcases putsS_mem hi with h | h
    · exact hm i h
    · exact h2 i h
  · have := putsS_length is js
    omega
theorem putR_of {is : List Item} {x : Item} (h1 : storeMay is = true) (h2 : itemMay x = true) (h3 : is.length < 16) : putR is x = (putS x is, 0) := by
  have := (putS_length_le x is).2
  unfold putR
  rw [h1, h2]
  simp
  omega
/-- One round further in a row of puts. -/
theorem puts_step {is js : List Item} {i : Nat} {x : Item} (h1 : storeMay is = true) (h2 : ∀ j ∈ js, itemMay j = true) (h3 : is.length + js.length ≤ 16) (hx : js[i]? = some x) :
    putR (putsS is (js.take i)) x = (putsS is (js.take (i + 1)), 0) := by
  have hi : i < js.length := (List.getElem?_eq_some_iff.1 hx).1
  have hm := puts_may (js := js.take i) h1 (fun j hj => h2 j (List.mem_of_mem_take hj)) (by simp; omega)
  have hl := putsS_length is (js.take i)
  rw [putR_of hm (h2 x (List.mem_of_getElem? hx)) (by simp at hl; omega), List.take_add_one, hx]
  simp only [Option.toList]
  rw [putsS_snoc]
theorem putR_twice {is : List Item} {x : Item} (h : (putR is x).2 = 0) : putR (putR is x).1 x = ((putR is x).1, 0) ∧ ∀ y ∈ is, putR (putR is x).1 y = ((putR is x).1, 0) := by
  obtain ⟨h1, h2, h3, h4⟩ := putR_may h
  obtain ⟨hm, hr, hl⟩ := (storeMay_iff is).1 h1
  have h5 := ((storeMay_iff _).1 h4).2.2
  rw [h3]
  simp only
  refine ⟨?_, fun y hy => ?_⟩
  · unfold putR
    rw [h4, h2, putS_self hr]
    simp [h5]
  · unfold putR
    rw [h4, hm y hy, putS_mem2 hr x hy]
    simp [h5]
theorem rot_perm {α : Type} (xs : List α) (r : Nat) : (xs.drop r ++ xs.take r).Perm xs := by
  have h : (xs.take r ++ xs.drop r).Perm (xs.drop r ++ xs.take r) := List.perm_append_comm
  rw [List.take_append_drop] at h
  exact h.symm
/-- A row turned by r. -/
theorem rot_get {α : Type} (xs : List α) (r i : Nat) (hr : r < xs.length) (hi : i < xs.length) : (xs.drop r ++ xs.take r)[i]? = xs[(i + r) % xs.length]? := by
  rw [List.getElem?_append]
  simp only [List.length_drop, List.getElem?_drop, List.getElem?_take]
  by_cases h : i < xs.length - r
  · rw [if_pos h, Nat.mod_eq_of_lt (by omega), Nat.add_comm]
  · rw [if_neg h, if_pos (by omega), Nat.mod_eq_sub_mod (by omega), Nat.mod_eq_of_lt (by omega)]
    congr 1
    omega
end Go.AM
namespace Go.AM
theorem puts_stepP {js : List Item} {i : Nat} {x : Item} (h2 : ∀ j ∈ js.take i, itemMay j = true) (h3 : i < 16) (hx : js[i]? = some x) :
    putR (putsS [] (js.take i)) x = if itemMay x then (putsS [] (js.take (i + 1)), 0) else ([], 500) := by
  have hi : i < js.length := (List.getElem?_eq_some_iff.1 hx).1
  have hm := puts_may (is := []) (js := js.take i) (by decide) h2 (by simp; omega)
  have hl := putsS_length [] (js.take i)
  cases hmx : itemMay x with
  | true =>
    rw [putR_of hm hmx (by simp at hl; omega), List.take_add_one, hx]
    simp only [Option.toList]
    rw [putsS_snoc]
    rfl
  | false =>
    unfold putR
    rw [hm, hmx]
    rfl
theorem turn_eq {a : Int} {k : Nat} (ha : in64 a) (hk : 0 < k) (hk2 : k ≤ 16) : ∃ r : Nat, r < k ∧ (IntKind.u64.wrap a).tmod (IntKind.u64.wrap (k : Int)) = (r : Int) := by
  have h1 : IntKind.u64.wrap (k : Int) = k := IntWalk.u64_in (k : Int) ⟨by omega, by omega⟩
  have h2 : 0 ≤ IntKind.u64.wrap a := by
    simp [IntKind.wrap, IntKind.signed, IntKind.bits]
    omega
  rw [h1, Int.tmod_eq_emod_of_nonneg h2]
  have h3 := Int.emod_nonneg (IntKind.u64.wrap a) (show (k : Int) ≠ 0 by omega)
  have h4 := Int.emod_lt_of_pos (IntKind.u64.wrap a) (show (0 : Int) < k by omega)
  exact ⟨(IntKind.u64.wrap a % k).toNat, by omega, by omega⟩
end Go.AM
/- AM: contracts: a node is copied, takes an item. -/
namespace Go.AM
set_option linter.unusedSimpArgs false
set_option linter.unusedVariables false
set_option maxRecDepth 8000
set_option maxHeartbeats 0
theorem fit_of {α : Type} {f : α → List D} {n : Nat} (h : ∀ a, (f a).length = n ∧ (f a).all D.isCell = true) (xs : List α) : Fits n (xs.map f) := by
  intro r hr
  obtain ⟨a, _, rfl⟩ := List.mem_map.1 hr
  exact h a
theorem view_Copy (v : View) (hs : v.small) : Den PP 82 [viewD v] [] (.agg [.int .i64 v.id, .ref 0 0 v.peers.length, .ref 1 0 v.passive.length]) [⟨v.peers.map Peer.row, 2, .mut⟩, ⟨v.passive.map irow, 1, .mut⟩] := by
  obtain ⟨h1, h2⟩ := hs
  unfold cap16 at h1
  unfold cap at h2
  have c1 := clone_Peer (v.peers.map Peer.row) (fit_of (f := Peer.row) (n := 2) (fun _ => ⟨rfl, rfl⟩) _) (by simp; omega)
  have c2 := clone_int (v.passive.map irow) (fit_of (f := irow) (n := 1) (fun _ => ⟨rfl, rfl⟩) _) (by simp; omega)
  simp only [List.length_map] at c1 c2
  refine den_of [5, 8] [] is_view_Copy ?_
  simp -implicitDefEqProofs [c_view_Copy, viewD, View.cells, peersD, intsD]
  refine callThen_of c1 ?_
  simp -implicitDefEqProofs [downTo]
  refine callThen_of c2 ?_
  simp -implicitDefEqProofs [downTo]
def copyD (x : Node) : D := .agg [.bool x.up, .int .i64 x.view.id, .ref 0 0 x.view.peers.length, .ref 1 0 x.view.passive.length, .ref 2 0 x.items.length, .ref 3 0 x.log.length]
def nodeB (x : Node) : List Blk := [⟨x.view.peers.map Peer.row, 2, .mut⟩, ⟨x.view.passive.map irow, 1, .mut⟩, ⟨x.items.map Item.row, 5, .mut⟩, ⟨x.log.map Told.row, 3, .mut⟩]
theorem node_Copy (x : Node) (hs : x.small) : Den PP 51 [nodeD x] [] (copyD x) (nodeB x) := by
  have c1 := view_Copy x.view hs.1
  obtain ⟨⟨h1, h2⟩, h3, h4⟩ := hs
  unfold cap16 at h1
  unfold cap at h2
  have c2 := clone_Item (x.items.map Item.row) (fit_of (f := Item.row) (n := 5) (fun _ => ⟨rfl, rfl⟩) _) (by simp; omega)
  have c3 := clone_Told (x.log.map Told.row) (fit_of (f := Told.row) (n := 3) (fun _ => ⟨rfl, rfl⟩) _) (by simp; omega)
  simp only [List.length_map, viewD, View.cells, peersD, intsD] at c1 c2 c3
  unfold copyD nodeB
  refine den_of [5, 8, 11] [] is_node_Copy ?_
  simp -implicitDefEqProofs [c_node_Copy, nodeD, Node.cells, peersD, intsD, itemsD, toldsD]
  refine callThen_of c1 ?_
  simp -implicitDefEqProofs [downTo]
  refine callThen_of c2 ?_
  simp -implicitDefEqProofs [downTo]
  refine callThen_of c3 ?_
  simp -implicitDefEqProofs [downTo]
theorem ref_copyNode (x : Node) (hs : x.small) : Den PP 55 [nodeD x] [] (copyD x) (nodeB x) := by
  obtain ⟨⟨h1, h2⟩, h3, h4⟩ := hs
  unfold cap16 at h1
  unfold cap at h2
  have f1 : Fits 2 (x.view.peers.map Peer.row) := fit_of (f := Peer.row) (n := 2) (fun _ => ⟨rfl, rfl⟩) _
  have f2 : Fits 1 (x.view.passive.map irow) := fit_of (f := irow) (n := 1) (fun _ => ⟨rfl, rfl⟩) _
  have f3 : Fits 5 (x.items.map Item.row) := fit_of (f := Item.row) (n := 5) (fun _ => ⟨rfl, rfl⟩) _
  have f4 : Fits 3 (x.log.map Told.row) := fit_of (f := Told.row) (n := 3) (fun _ => ⟨rfl, rfl⟩) _
  have t1 : List.take x.view.peers.length (x.view.peers.map Peer.row) = x.view.peers.map Peer.row := List.take_of_length_le (by simp)
  have t2 : List.take x.view.passive.length (x.view.passive.map irow) = x.view.passive.map irow := List.take_of_length_le (by simp)
  have t3 : List.take x.items.length (x.items.map Item.row) = x.items.map Item.row := List.take_of_length_le (by simp)
  have t4 : List.take x.log.length (x.log.map Told.row) = x.log.map Told.row := List.take_of_length_le (by simp)
  unfold copyD nodeB
  refine den_of [] [] is_gimmalref16_copyNode ?_
  simp -implicitDefEqProofs [c_gimmalref16_copyNode, nodeD, Node.cells, peersD, intsD, itemsD, toldsD, t1, t2, t3, t4, f1, f2, f3, f4]
  repeat' (first | (refine callThen_of (by first | exact ring_Place _ | exact den_nrm (ring_Place _) | exact den_nrm (by simpa using ring_Place _)) ?_; simp -implicitDefEqProofs [*, t1, t2, t3, t4, f1, f2, f3, f4]) | (with_reducible refine gOps_dec (fun _ => ?_) (fun _ => ?_) <;> simp -implicitDefEqProofs [*, t1, t2, t3, t4, f1, f2, f3, f4]) | (with_reducible refine gOps_ndec (fun _ => ?_) (fun _ => ?_) <;> simp -implicitDefEqProofs [*, t1, t2, t3, t4, f1, f2, f3, f4]) | (with_reducible refine gOps_and (fun hq => ?_) (fun hq => ?_) <;> (try simp at hq) <;> simp -implicitDefEqProofs [*, t1, t2, t3, t4, f1, f2, f3, f4]) | (with_reducible refine gOps_or (fun hq => ?_) (fun hq => ?_) <;> (try simp at hq) <;> simp -implicitDefEqProofs [*, t1, t2, t3, t4, f1, f2, f3, f4]) | (with_reducible refine gOps_not (fun hq => ?_) (fun hq => ?_) <;> (try simp at hq) <;> simp -implicitDefEqProofs [*, t1, t2, t3, t4, f1, f2, f3, f4]) | (with_reducible refine gOps_split (fun hq => ?_) (fun hq => ?_) <;> (try simp at hq) <;> simp -implicitDefEqProofs [*, t1, t2, t3, t4, f1, f2, f3, f4]) | (with_reducible refine condC_dec (fun _ => ?_) (fun _ => ?_) <;> simp -implicitDefEqProofs [*, t1, t2, t3, t4, f1, f2, f3, f4]) | (with_reducible refine condC_ndec (fun _ => ?_) (fun _ => ?_) <;> simp -implicitDefEqProofs [*, t1, t2, t3, t4, f1, f2, f3, f4]) | (with_reducible refine condC_and (fun hq => ?_) (fun hq => ?_) <;> (try simp at hq) <;> simp -implicitDefEqProofs [*, t1, t2, t3, t4, f1, f2, f3, f4]) | (with_reducible refine condC_or (fun hq => ?_) (fun hq => ?_) <;> (try simp at hq) <;> simp -implicitDefEqProofs [*, t1, t2, t3, t4, f1, f2, f3, f4]) | (with_reducible refine condC_not (fun hq => ?_) (fun hq => ?_) <;> (try simp at hq) <;> simp -implicitDefEqProofs [*, t1, t2, t3, t4, f1, f2, f3, f4]) | (with_reducible refine condC_split (fun hq => ?_) (fun hq => ?_) <;> (try simp at hq) <;> simp -implicitDefEqProofs [*, t1, t2, t3, t4, f1, f2, f3, f4]) | (refine appK2_if (by omega) ?_; simp -implicitDefEqProofs [*, t1, t2, t3, t4, f1, f2, f3, f4]) | (refine pureV_if (by omega) ?_; simp -implicitDefEqProofs [*, t1, t2, t3, t4, f1, f2, f3, f4]))
def takeI (x : Node) (i : Item) : Node := if (putR x.items i).2 = 0 then { x with items := (putR x.items i).1 } else x
theorem take_Item_no (x : Node) (i : Item) (hs : x.small) (h : (nodeUp x && itemMay i) = false) : Den PP 39 [nodeD x, .agg i.row] [] (.tup [.agg [.bool false, .int .i64 0, .nil, .nil, .nil, .nil], .int .i64 2000]) [] := by
  have c1 := node_Up x hs
  have c2 := item_May i
  generalize nodeUp x = U at *
  generalize itemMay i = M at *
  simp only [nodeD, Node.cells, peersD, intsD, itemsD, toldsD, Item.row] at c1 c2
  refine den_of [] [] is_take_Item ?_
  cases U <;> cases M
  all_goals
    simp at h
  all_goals
    simp -implicitDefEqProofs [c_take_Item, nodeD, Node.cells, peersD, intsD, itemsD, toldsD, Item.row]
    repeat' (first | (refine callThen_of (by first | exact c1 | exact c2) ?_; simp -implicitDefEqProofs [*]) | (with_reducible refine gOps_dec (fun _ => ?_) (fun _ => ?_) <;> simp -implicitDefEqProofs [*]) | (with_reducible refine gOps_ndec (fun _ => ?_) (fun _ => ?_) <;> simp -implicitDefEqProofs [*]) | (with_reducible refine gOps_and (fun hq => ?_) (fun hq => ?_) <;> (try simp at hq) <;> simp -implicitDefEqProofs [*]) | (with_reducible refine gOps_or (fun hq => ?_) (fun hq => ?_) <;> (try simp at hq) <;> simp -implicitDefEqProofs [*]) | (with_reducible refine gOps_not (fun hq => ?_) (fun hq => ?_) <;> (try simp at hq) <;> simp -implicitDefEqProofs [*]) | (with_reducible refine gOps_split (fun hq => ?_) (fun hq => ?_) <;> (try simp at hq) <;> simp -implicitDefEqProofs [*]) | (with_reducible refine condC_dec (fun _ => ?_) (fun _ => ?_) <;> simp -implicitDefEqProofs [*]) | (with_reducible refine condC_ndec (fun _ => ?_) (fun _ => ?_) <;> simp -implicitDefEqProofs [*]) | (with_reducible refine condC_and (fun hq => ?_) (fun hq => ?_) <;> (try simp at hq) <;> simp -implicitDefEqProofs [*]) | (with_reducible refine condC_or (fun hq => ?_) (fun hq => ?_) <;> (try simp at hq) <;> simp -implicitDefEqProofs [*]) | (with_reducible refine condC_not (fun hq => ?_) (fun hq => ?_) <;> (try simp at hq) <;> simp -implicitDefEqProofs [*]) | (with_reducible refine condC_split (fun hq => ?_) (fun hq => ?_) <;> (try simp at hq) <;> simp -implicitDefEqProofs [*]) | (refine appK2_if (by omega) ?_; simp -implicitDefEqProofs [*]) | (refine pureV_if (by omega) ?_; simp -implicitDefEqProofs [*]))
theorem take_Item (x : Node) (i : Item) (hs : x.small) (h : (nodeUp x && itemMay i) = true) : Den PP 39 [nodeD x, .agg i.row] [] (.tup [copyD (takeI x i), .int .i64 0]) (nodeB (takeI x i)) := by
  have c1 := node_Up x hs
  have c2 := item_May i
  have c3 := node_Copy x hs
  have c4 := store_Put x.items i (by have := hs.2.1; unfold cap16; omega)
  rw [Bool.and_eq_true] at h
  obtain ⟨h1, h2⟩ := h
  rw [h1] at c1
  rw [h2] at c2
  unfold takeI
  generalize putR x.items i = r at *
  obtain ⟨is, e⟩ := r
  simp only [nodeD, Node.cells, peersD, intsD, itemsD, toldsD, Item.row, copyD, nodeB] at c1 c2 c3 c4 ⊢
  clear h1 h2
  refine den_of [19, 24] [] is_take_Item ?_
  by_cases he : e = 0
  · subst he
    simp -implicitDefEqProofs [c_take_Item, nodeD, Node.cells, peersD, intsD, itemsD, toldsD, Item.row]
    refine callThen_of c1 ?_
    simp -implicitDefEqProofs
    refine callThen_of c2 ?_
    simp -implicitDefEqProofs
    refine callThen_of c3 ?_
    simp -implicitDefEqProofs [downTo]
    refine callThen_of c4 ?_
    simp -implicitDefEqProofs [downTo]
  · simp -implicitDefEqProofs [c_take_Item, nodeD, Node.cells, peersD, intsD, itemsD, toldsD, Item.row]
    refine callThen_of c1 ?_
    simp -implicitDefEqProofs
    refine callThen_of c2 ?_
    simp -implicitDefEqProofs
    refine callThen_of c3 ?_
    simp -implicitDefEqProofs [downTo]
    refine callThen_of c4 ?_
    simp -implicitDefEqProofs [downTo, he]
end Go.AM
/- AM: contracts: the document's take; a node spoiled. -/
namespace Go.AM
set_option linter.unusedSimpArgs false
set_option linter.unusedVariables false
set_option maxRecDepth 8000
set_option maxHeartbeats 0
theorem ref_Take_no (x : Node) (i : Item) (hs : x.small) (h : (nodeUp x && itemMay i) = false) : Den PP 40 [nodeD x, .agg i.row] [] (.tup [.agg [.bool false, .int .i64 0, .nil, .nil, .nil, .nil], .int .i64 2000]) [] := by
  have c1 := ref_upMay x hs
  have c2 := ref_ItemMay i
  generalize nodeUp x = U at *
  generalize itemMay i = M at *
  simp only [nodeD, Node.cells, peersD, intsD, itemsD, toldsD, Item.row] at c1 c2
  refine den_of [] [] is_gimmalref16_Take ?_
  cases U <;> cases M
  all_goals
    simp at h
  all_goals
    simp -implicitDefEqProofs [c_gimmalref16_Take, nodeD, Node.cells, peersD, intsD, itemsD, toldsD, Item.row]
    repeat' (first | (refine callThen_of (by first | exact c1 | exact c2) ?_; simp -implicitDefEqProofs [*]) | (with_reducible refine gOps_dec (fun _ => ?_) (fun _ => ?_) <;> simp -implicitDefEqProofs [*]) | (with_reducible refine gOps_ndec (fun _ => ?_) (fun _ => ?_) <;> simp -implicitDefEqProofs [*]) | (with_reducible refine gOps_and (fun hq => ?_) (fun hq => ?_) <;> (try simp at hq) <;> simp -implicitDefEqProofs [*]) | (with_reducible refine gOps_or (fun hq => ?_) (fun hq => ?_) <;> (try simp at hq) <;> simp -implicitDefEqProofs [*]) | (with_reducible refine gOps_not (fun hq => ?_) (fun hq => ?_) <;> (try simp at hq) <;> simp -implicitDefEqProofs [*]) | (with_reducible refine gOps_split (fun hq => ?_) (fun hq => ?_) <;> (try simp at hq) <;> simp -implicitDefEqProofs [*]) | (with_reducible refine condC_dec (fun _ => ?_) (fun _ => ?_) <;> simp -implicitDefEqProofs [*]) | (with_reducible refine condC_ndec (fun _ => ?_) (fun _ => ?_) <;> simp -implicitDefEqProofs [*]) | (with_reducible refine condC_and (fun hq => ?_) (fun hq => ?_) <;> (try simp at hq) <;> simp -implicitDefEqProofs [*]) | (with_reducible refine condC_or (fun hq => ?_) (fun hq => ?_) <;> (try simp at hq) <;> simp -implicitDefEqProofs [*]) | (with_reducible refine condC_not (fun hq => ?_) (fun hq => ?_) <;> (try simp at hq) <;> simp -implicitDefEqProofs [*]) | (with_reducible refine condC_split (fun hq => ?_) (fun hq => ?_) <;> (try simp at hq) <;> simp -implicitDefEqProofs [*]) | (refine appK2_if (by omega) ?_; simp -implicitDefEqProofs [*]) | (refine pureV_if (by omega) ?_; simp -implicitDefEqProofs [*]))
theorem ref_Take (x : Node) (i : Item) (hs : x.small) (h : (nodeUp x && itemMay i) = true) : Den PP 40 [nodeD x, .agg i.row] [] (.tup [copyD (takeI x i), .int .i64 0]) (nodeB (takeI x i)) := by
  have c1 := ref_upMay x hs
  have c2 := ref_ItemMay i
  have c3 := ref_copyNode x hs
  have c4 := ref_PutStore x.items i (by have := hs.2.1; unfold cap16; omega)
  rw [Bool.and_eq_true] at h
  obtain ⟨h1, h2⟩ := h
  rw [h1] at c1
  rw [h2] at c2
  unfold takeI
  generalize putR x.items i = r at *
  obtain ⟨is, e⟩ := r
  simp only [nodeD, Node.cells, peersD, intsD, itemsD, toldsD, Item.row, copyD, nodeB] at c1 c2 c3 c4 ⊢
  clear h1 h2
  refine den_of [19, 24] [] is_gimmalref16_Take ?_
  by_cases he : e = 0
  · subst he
    simp -implicitDefEqProofs [c_gimmalref16_Take, nodeD, Node.cells, peersD, intsD, itemsD, toldsD, Item.row]
    refine callThen_of c1 ?_
    simp -implicitDefEqProofs
    refine callThen_of c2 ?_
    simp -implicitDefEqProofs
    refine callThen_of c3 ?_
    simp -implicitDefEqProofs [downTo]
    refine callThen_of c4 ?_
    simp -implicitDefEqProofs [downTo]
  · simp -implicitDefEqProofs [c_gimmalref16_Take, nodeD, Node.cells, peersD, intsD, itemsD, toldsD, Item.row]
    refine callThen_of c1 ?_
    simp -implicitDefEqProofs
    refine callThen_of c2 ?_
    simp -implicitDefEqProofs
    refine callThen_of c3 ?_
    simp -implicitDefEqProofs [downTo]
    refine callThen_of c4 ?_
    simp -implicitDefEqProofs [downTo, he]
theorem law_SpoilPeers_nil : Den PP 87 [.nil] [] (.tup []) [] := by
  refine den_of [] [] is_gimmallaw0_SpoilPeers ?_
  simp -implicitDefEqProofs [c_gimmallaw0_SpoilPeers]
  refine loop_rule 0 (fun _ ⟨fr, bs⟩ => bs = [] ∧ fr 0 = .nil ∧ fr 2 = .int .i64 0) (fun ⟨fr, bs⟩ => bs = []) (fun _ => False) c_gimmallaw0_SpoilPeers_L0.eq_1 ?_ ?_ ?_ ?_ ?_
  · exact ⟨rfl, rfl, rfl⟩
  · rintro ⟨fr, bs⟩ ⟨rfl, h0, h2⟩
    simp -implicitDefEqProofs [h0, h2]
  · rintro m ⟨fr, bs⟩ ⟨rfl, h0, h2⟩
    simp -implicitDefEqProofs [h0, h2]
  · rintro ⟨fr, bs⟩ rfl
    simp -implicitDefEqProofs
  · rintro ⟨fr, bs⟩ h
    exact h.elim
theorem law_SpoilItems_nil : Den PP 59 [.nil] [] (.tup []) [] := by
  refine den_of [] [] is_gimmallaw0_SpoilItems ?_
  simp -implicitDefEqProofs [c_gimmallaw0_SpoilItems]
  refine loop_rule 0 (fun _ ⟨fr, bs⟩ => bs = [] ∧ fr 0 = .nil ∧ fr 2 = .int .i64 0) (fun ⟨fr, bs⟩ => bs = []) (fun _ => False) c_gimmallaw0_SpoilItems_L0.eq_1 ?_ ?_ ?_ ?_ ?_
  · exact ⟨rfl, rfl, rfl⟩
  · rintro ⟨fr, bs⟩ ⟨rfl, h0, h2⟩
    simp -implicitDefEqProofs [h0, h2]
  · rintro m ⟨fr, bs⟩ ⟨rfl, h0, h2⟩
    simp -implicitDefEqProofs [h0, h2]
  · rintro ⟨fr, bs⟩ rfl
    simp -implicitDefEqProofs
  · rintro ⟨fr, bs⟩ h
    exact h.elim
theorem law_SpoilTolds_nil : Den PP 60 [.nil] [] (.tup []) [] := by
  refine den_of [] [] is_gimmallaw0_SpoilTolds ?_
  simp -implicitDefEqProofs [c_gimmallaw0_SpoilTolds]
  refine loop_rule 0 (fun _ ⟨fr, bs⟩ => bs = [] ∧ fr 0 = .nil ∧ fr 2 = .int .i64 0) (fun ⟨fr, bs⟩ => bs = []) (fun _ => False) c_gimmallaw0_SpoilTolds_L0.eq_1 ?_ ?_ ?_ ?_ ?_
  · exact ⟨rfl, rfl, rfl⟩
  · rintro ⟨fr, bs⟩ ⟨rfl, h0, h2⟩
    simp -implicitDefEqProofs [h0, h2]
  · rintro m ⟨fr, bs⟩ ⟨rfl, h0, h2⟩
    simp -implicitDefEqProofs [h0, h2]
  · rintro ⟨fr, bs⟩ rfl
    simp -implicitDefEqProofs
  · rintro ⟨fr, bs⟩ h
    exact h.elim
theorem law_SpoilView_nil (i : Int) : Den PP 58 [.agg [.int .i64 i, .nil, .nil]] [] (.tup []) [] := by
  refine den_of [] [3, 6] is_gimmallaw0_SpoilView ?_
  simp -implicitDefEqProofs [c_gimmallaw0_SpoilView]
  refine lendThen_frame [] rfl (by decide) (by simp) law_SpoilPeers_nil (by simp) (by simp [lentBs]) ?_
  simp -implicitDefEqProofs [framed]
  refine lendThen_frame [] rfl (by decide) (by simp) law_SpoilInts_nil (by simp) (by simp [lentBs]) ?_
  simp -implicitDefEqProofs [framed]
theorem law_SpoilView (v : View) (hs : v.peers.length ≤ cap16) (hp : v.passive.length ≤ cap16) : Den PP 58 [.agg [.int .i64 v.id, .ref 0 0 v.peers.length, .ref 1 0 v.passive.length]] [⟨v.peers.map Peer.row, 2, .mut⟩, ⟨v.passive.map irow, 1, .mut⟩] (.tup []) [⟨(v.peers.map spoilPeer).map Peer.row, 2, .mut⟩, ⟨(v.passive.map spoilInt).map irow, 1, .mut⟩] := by
  have s1 := spoil_Peer v.peers hs
  have s2 := spoil_Int v.passive hp
  refine den_of [] [3, 6] is_gimmallaw0_SpoilView ?_
  simp -implicitDefEqProofs [c_gimmallaw0_SpoilView]
  refine lendThen_frame [0] rfl (by decide) (by simp) s1 (by simp) (by simp [lentBs]) ?_
  simp -implicitDefEqProofs [framed]
  refine lendThen_frame [1] rfl (by decide) (by simp) s2 (by simp) (by simp [lentBs]) ?_
  simp -implicitDefEqProofs [framed]
theorem law_SpoilNode_nil (u : Bool) (i : Int) : Den PP 25 [.agg [.bool u, .int .i64 i, .nil, .nil, .nil, .nil]] [] (.tup []) [] := by
  refine den_of [] [3, 6, 9] is_gimmallaw0_SpoilNode ?_
  simp -implicitDefEqProofs [c_gimmallaw0_SpoilNode]
  refine lendThen_frame [] rfl (by decide) (by simp) (law_SpoilView_nil i) (by simp) (by simp [lentBs]) ?_
  simp -implicitDefEqProofs [framed]
  refine lendThen_frame [] rfl (by decide) (by simp) law_SpoilItems_nil (by simp) (by simp [lentBs]) ?_
  simp -implicitDefEqProofs [framed]
  refine lendThen_frame [] rfl (by decide) (by simp) law_SpoilTolds_nil (by simp) (by simp [lentBs]) ?_
  simp -implicitDefEqProofs [framed]
def spoilN (x : Node) : Node := ⟨x.up, ⟨x.view.id, x.view.peers.map spoilPeer, x.view.passive.map spoilInt⟩, x.items.map spoilItem, x.log.map spoilTold⟩
theorem law_SpoilNode (x : Node) (h1 : x.view.peers.length ≤ cap16) (h2 : x.view.passive.length ≤ cap16) (h3 : x.items.length ≤ cap16) (h4 : x.log.length ≤ cap16) : Den PP 25 [copyD x] (nodeB x) (.tup []) (nodeB (spoilN x)) := by
  have s1 := law_SpoilView x.view h1 h2
  have s2 := spoil_Item x.items h3
  have s3 := spoil_Told x.log h4
  unfold copyD nodeB spoilN
  refine den_of [] [3, 6, 9] is_gimmallaw0_SpoilNode ?_
  simp -implicitDefEqProofs [c_gimmallaw0_SpoilNode]
  refine lendThen_frame [0, 1] rfl (by decide) (by simp) s1 (by simp) (by simp [lentBs]) ?_
  simp -implicitDefEqProofs [framed]
  refine lendThen_frame [2] rfl (by decide) (by simp) s2 (by simp) (by simp [lentBs]) ?_
  simp -implicitDefEqProofs [framed]
  refine lendThen_frame [3] rfl (by decide) (by simp) s3 (by simp) (by simp [lentBs]) ?_
  simp -implicitDefEqProofs [framed]
end Go.AM
/- AM: chapter 20's statements: Takes. -/
namespace Go.AM
set_option linter.unusedSimpArgs false
set_option linter.unusedVariables false
set_option maxRecDepth 8000
set_option maxHeartbeats 0
def itT (k c : Int) : Item := ⟨k, c, 1, c % 256, false⟩
def nodeT : Node := ⟨true, ⟨100, [⟨101, 2⟩, ⟨200, 0⟩, ⟨90, 1⟩], [7]⟩, [⟨95, 1, 1, 1, false⟩, ⟨99, 3, 1, 3, false⟩, ⟨250, 2, 1, 2, false⟩], []⟩
theorem small_nodeT : nodeT.small := by unfold Node.small View.small cap16 cap; decide
theorem nodeUp_parts {x : Node} (h : nodeUp x = true) : x.up = true ∧ viewMay x.view = true ∧ storeMay x.items = true ∧ x.log.length ≤ 64 ∧ x.log.any toldOdd = false := by
  simp only [nodeUp, nodeMay, Bool.and_eq_true, decide_eq_true_eq, Bool.not_eq_true'] at h
  exact ⟨h.1, h.2.1.1.1.2, h.2.1.1.2, h.2.1.2, h.2.2⟩
theorem nodeUp_of {x : Node} (h1 : x.up = true) (h2 : viewMay x.view = true) (h3 : storeMay x.items = true) (h4 : x.log.length ≤ 64) (h5 : x.log.any toldOdd = false) : nodeUp x = true := by
  simp [nodeUp, nodeMay, h1, h2, h3, h4, h5]
theorem takeI_up {x : Node} {i : Item} (h : nodeUp x = true) : nodeUp (takeI x i) = true := by
  obtain ⟨h1, h2, h3, h4, h5⟩ := nodeUp_parts h
  unfold takeI
  split
  · rename_i h6
    obtain ⟨_, _, h7, h8⟩ := putR_may h6
    rw [h7]
    exact nodeUp_of h1 h2 h8 h4 h5
  · exact h
theorem nodeUp_small {x : Node} (h : nodeUp x = true) : x.view.peers.length ≤ 16 ∧ x.view.passive.length ≤ 16 ∧ x.items.length ≤ 16 ∧ x.log.length ≤ 64 := by
  obtain ⟨h1, h2, h3, h4, h5⟩ := nodeUp_parts h
  have h6 := (viewMay_parts h2).2.2.1
  have h7 := ((storeMay_iff _).1 h3).2.2
  omega
theorem nodeUp_small2 {x : Node} (h : nodeUp x = true) : x.small := by
  obtain ⟨h1, h2, h3, h4⟩ := nodeUp_small h
  unfold Node.small View.small cap16 cap
  omega
theorem law20_it (k c : Int) : Den PP 43 [.int .i64 k, .int .i64 c] [] (.agg (itT k c).row) [] := by
  refine den_of [] [] is_gimmallaw20_it ?_
  simp -implicitDefEqProofs [c_gimmallaw20_it, itT, Item.row]
theorem law20_node100 : Den PP 42 [] [] (.agg [.bool true, .int .i64 100, .ref 0 0 3, .ref 1 0 1, .ref 2 0 3, .nil]) [⟨nodeT.view.peers.map Peer.row, 2, .mut⟩, ⟨nodeT.view.passive.map irow, 1, .mut⟩, ⟨nodeT.items.map Item.row, 5, .mut⟩] := by
  have i1 := law20_it 95 1
  have i2 := law20_it 99 3
  have i3 := law20_it 250 2
  simp [itT, Item.row] at i1 i2 i3
  refine den_of [] [] is_gimmallaw20_node100 ?_
  simp -implicitDefEqProofs [c_gimmallaw20_node100, nodeT, Peer.row, irow, Item.row]
  repeat' (first | (refine callThen_of (by first | exact i1 | exact i2 | exact i3) ?_; simp -implicitDefEqProofs [*, nodeT, Peer.row, irow, Item.row]) | (with_reducible refine gOps_dec (fun _ => ?_) (fun _ => ?_) <;> simp -implicitDefEqProofs [*, nodeT, Peer.row, irow, Item.row]) | (with_reducible refine gOps_ndec (fun _ => ?_) (fun _ => ?_) <;> simp -implicitDefEqProofs [*, nodeT, Peer.row, irow, Item.row]) | (with_reducible refine gOps_and (fun hq => ?_) (fun hq => ?_) <;> (try simp at hq) <;> simp -implicitDefEqProofs [*, nodeT, Peer.row, irow, Item.row]) | (with_reducible refine gOps_or (fun hq => ?_) (fun hq => ?_) <;> (try simp at hq) <;> simp -implicitDefEqProofs [*, nodeT, Peer.row, irow, Item.row]) | (with_reducible refine gOps_not (fun hq => ?_) (fun hq => ?_) <;> (try simp at hq) <;> simp -implicitDefEqProofs [*, nodeT, Peer.row, irow, Item.row]) | (with_reducible refine gOps_split (fun hq => ?_) (fun hq => ?_) <;> (try simp at hq) <;> simp -implicitDefEqProofs [*, nodeT, Peer.row, irow, Item.row]) | (with_reducible refine condC_dec (fun _ => ?_) (fun _ => ?_) <;> simp -implicitDefEqProofs [*, nodeT, Peer.row, irow, Item.row]) | (with_reducible refine condC_ndec (fun _ => ?_) (fun _ => ?_) <;> simp -implicitDefEqProofs [*, nodeT, Peer.row, irow, Item.row]) | (with_reducible refine condC_and (fun hq => ?_) (fun hq => ?_) <;> (try simp at hq) <;> simp -implicitDefEqProofs [*, nodeT, Peer.row, irow, Item.row]) | (with_reducible refine condC_or (fun hq => ?_) (fun hq => ?_) <;> (try simp at hq) <;> simp -implicitDefEqProofs [*, nodeT, Peer.row, irow, Item.row]) | (with_reducible refine condC_not (fun hq => ?_) (fun hq => ?_) <;> (try simp at hq) <;> simp -implicitDefEqProofs [*, nodeT, Peer.row, irow, Item.row]) | (with_reducible refine condC_split (fun hq => ?_) (fun hq => ?_) <;> (try simp at hq) <;> simp -implicitDefEqProofs [*, nodeT, Peer.row, irow, Item.row]) | (refine appK2_if (by omega) ?_; simp -implicitDefEqProofs [*, nodeT, Peer.row, irow, Item.row]) | (refine pureV_if (by omega) ?_; simp -implicitDefEqProofs [*, nodeT, Peer.row, irow, Item.row]))
theorem law20_awake : Den PP 41 [] [] (.bool true) [] := by
  have g1 := take_Item nodeT (itT 99 9) small_nodeT (by decide +kernel)
  have g2 := take_Item nodeT (itT 99 2) small_nodeT (by decide +kernel)
  have g3 := take_Item_no nodeT zeroItem small_nodeT (by decide +kernel)
  have g4 := law_SameNode nodeT nodeT small_nodeT
  have e1 : takeI nodeT (itT 99 9) = { nodeT with items := [itT 95 1, itT 99 9, itT 250 2] } := by decide +kernel
  have e2 : takeI nodeT (itT 99 2) = nodeT := by decide +kernel
  rw [e1] at g1
  rw [e2] at g2
  have i1 := law20_it 99 9
  have i2 := law20_it 99 2
  clear e1 e2
  simp [copyD, nodeB, nodeT, itT, zeroItem, nodeD, Node.cells, peersD, intsD, itemsD, toldsD, Peer.row, irow, Item.row] at g1 g2 g3 g4 i1 i2
  have g0 := law20_node100
  simp [nodeT, Peer.row, irow, Item.row] at g0
  refine den_of [] [] is_gimmallaw20_awake ?_
  simp -implicitDefEqProofs [c_gimmallaw20_awake]
  repeat' (first | (refine callThen_of (by first | exact g0 | exact i1 | exact i2 | exact g1 | exact den_nrm (g1) | exact den_nrm (by simpa using g1) | exact g2 | exact den_nrm (g2) | exact den_nrm (by simpa using g2) | exact g3 | exact den_nrm (g3) | exact den_nrm (by simpa using g3) | exact g4 | exact den_nrm (g4) | exact den_nrm (by simpa using g4) | exact law_Num _) ?_; simp -implicitDefEqProofs [*, downTo, EQS]) | (with_reducible refine gOps_dec (fun _ => ?_) (fun _ => ?_) <;> simp -implicitDefEqProofs [*, downTo, EQS]) | (with_reducible refine gOps_ndec (fun _ => ?_) (fun _ => ?_) <;> simp -implicitDefEqProofs [*, downTo, EQS]) | (with_reducible refine gOps_and (fun hq => ?_) (fun hq => ?_) <;> (try simp at hq) <;> simp -implicitDefEqProofs [*, downTo, EQS]) | (with_reducible refine gOps_or (fun hq => ?_) (fun hq => ?_) <;> (try simp at hq) <;> simp -implicitDefEqProofs [*, downTo, EQS]) | (with_reducible refine gOps_not (fun hq => ?_) (fun hq => ?_) <;> (try simp at hq) <;> simp -implicitDefEqProofs [*, downTo, EQS]) | (with_reducible refine gOps_split (fun hq => ?_) (fun hq => ?_) <;> (try simp at hq) <;> simp -implicitDefEqProofs [*, downTo, EQS]) | (with_reducible refine condC_dec (fun _ => ?_) (fun _ => ?_) <;> simp -implicitDefEqProofs [*, downTo, EQS]) | (with_reducible refine condC_ndec (fun _ => ?_) (fun _ => ?_) <;> simp -implicitDefEqProofs [*, downTo, EQS]) | (with_reducible refine condC_and (fun hq => ?_) (fun hq => ?_) <;> (try simp at hq) <;> simp -implicitDefEqProofs [*, downTo, EQS]) | (with_reducible refine condC_or (fun hq => ?_) (fun hq => ?_) <;> (try simp at hq) <;> simp -implicitDefEqProofs [*, downTo, EQS]) | (with_reducible refine condC_not (fun hq => ?_) (fun hq => ?_) <;> (try simp at hq) <;> simp -implicitDefEqProofs [*, downTo, EQS]) | (with_reducible refine condC_split (fun hq => ?_) (fun hq => ?_) <;> (try simp at hq) <;> simp -implicitDefEqProofs [*, downTo, EQS]) | (refine appK2_if (by omega) ?_; simp -implicitDefEqProofs [*, downTo, EQS]) | (refine pureV_if (by omega) ?_; simp -implicitDefEqProofs [*, downTo, EQS]))
theorem law20_Takes (x : Node) (i : Item) (hs : x.small) : Den PP 9 [nodeD x, .agg i.row] [] (.bool true) [] := by
  have g0 := law_CopyNode x hs
  have g5 := law_SameNode x x hs
  cases h : nodeUp x && itemMay i with
  | false =>
    have g1 := take_Item_no x i hs h
    have g2 := ref_Take_no x i hs h
    have g3 := law_SameNode ⟨false, ⟨0, [], []⟩, [], []⟩ ⟨false, ⟨0, [], []⟩, [], []⟩ (by unfold Node.small View.small cap16 cap; simp)
    have g4 := law_SpoilNode_nil false 0
    simp [nodeD, Node.cells, peersD, intsD, itemsD, toldsD, Item.row] at g0 g1 g2 g3 g5
    refine den_of [11, 15] [34] is_gimmallaw20_Takes ?_
    simp -implicitDefEqProofs [c_gimmallaw20_Takes, nodeD, Node.cells, peersD, intsD, itemsD, toldsD, Item.row]
    refine callThen_of g0 ?_
    simp -implicitDefEqProofs [downTo]
    refine callThen_of g1 ?_
    simp -implicitDefEqProofs [downTo]
    refine callThen_of g2 ?_
    simp -implicitDefEqProofs [downTo]
    refine callThen_nil rfl g3 (by simp) ?_
    simp -implicitDefEqProofs
    repeat' (first | (refine callThen_of (by first | exact law_Num _) ?_; simp -implicitDefEqProofs [*]) | (with_reducible refine gOps_dec (fun _ => ?_) (fun _ => ?_) <;> simp -implicitDefEqProofs [*]) | (with_reducible refine gOps_ndec (fun _ => ?_) (fun _ => ?_) <;> simp -implicitDefEqProofs [*]) | (with_reducible refine gOps_and (fun hq => ?_) (fun hq => ?_) <;> (try simp at hq) <;> simp -implicitDefEqProofs [*]) | (with_reducible refine gOps_or (fun hq => ?_) (fun hq => ?_) <;> (try simp at hq) <;> simp -implicitDefEqProofs [*]) | (with_reducible refine gOps_not (fun hq => ?_) (fun hq => ?_) <;> (try simp at hq) <;> simp -implicitDefEqProofs [*]) | (with_reducible refine gOps_split (fun hq => ?_) (fun hq => ?_) <;> (try simp at hq) <;> simp -implicitDefEqProofs [*]) | (with_reducible refine condC_dec (fun _ => ?_) (fun _ => ?_) <;> simp -implicitDefEqProofs [*]) | (with_reducible refine condC_ndec (fun _ => ?_) (fun _ => ?_) <;> simp -implicitDefEqProofs [*]) | (with_reducible refine condC_and (fun hq => ?_) (fun hq => ?_) <;> (try simp at hq) <;> simp -implicitDefEqProofs [*]) | (with_reducible refine condC_or (fun hq => ?_) (fun hq => ?_) <;> (try simp at hq) <;> simp -implicitDefEqProofs [*]) | (with_reducible refine condC_not (fun hq => ?_) (fun hq => ?_) <;> (try simp at hq) <;> simp -implicitDefEqProofs [*]) | (with_reducible refine condC_split (fun hq => ?_) (fun hq => ?_) <;> (try simp at hq) <;> simp -implicitDefEqProofs [*]) | (refine appK2_if (by omega) ?_; simp -implicitDefEqProofs [*]) | (refine pureV_if (by omega) ?_; simp -implicitDefEqProofs [*]))
    refine lendThen_frame [] rfl (by decide) (by simp) g4 (by simp) (by simp [lentBs]) ?_
    simp -implicitDefEqProofs [framed]
    repeat' (first | (refine callThen_of (by first | exact g5 | exact law20_awake) ?_; simp -implicitDefEqProofs [*]) | (with_reducible refine gOps_dec (fun _ => ?_) (fun _ => ?_) <;> simp -implicitDefEqProofs [*]) | (with_reducible refine gOps_ndec (fun _ => ?_) (fun _ => ?_) <;> simp -implicitDefEqProofs [*]) | (with_reducible refine gOps_and (fun hq => ?_) (fun hq => ?_) <;> (try simp at hq) <;> simp -implicitDefEqProofs [*]) | (with_reducible refine gOps_or (fun hq => ?_) (fun hq => ?_) <;> (try simp at hq) <;> simp -implicitDefEqProofs [*]) | (with_reducible refine gOps_not (fun hq => ?_) (fun hq => ?_) <;> (try simp at hq) <;> simp -implicitDefEqProofs [*]) | (with_reducible refine gOps_split (fun hq => ?_) (fun hq => ?_) <;> (try simp at hq) <;> simp -implicitDefEqProofs [*]) | (with_reducible refine condC_dec (fun _ => ?_) (fun _ => ?_) <;> simp -implicitDefEqProofs [*]) | (with_reducible refine condC_ndec (fun _ => ?_) (fun _ => ?_) <;> simp -implicitDefEqProofs [*]) | (with_reducible refine condC_and (fun hq => ?_) (fun hq => ?_) <;> (try simp at hq) <;> simp -implicitDefEqProofs [*]) | (with_reducible refine condC_or (fun hq => ?_) (fun hq => ?_) <;> (try simp at hq) <;> simp -implicitDefEqProofs [*]) | (with_reducible refine condC_not (fun hq => ?_) (fun hq => ?_) <;> (try simp at hq) <;> simp -implicitDefEqProofs [*]) | (with_reducible refine condC_split (fun hq => ?_) (fun hq => ?_) <;> (try simp at hq) <;> simp -implicitDefEqProofs [*]) | (refine appK2_if (by omega) ?_; simp -implicitDefEqProofs [*]) | (refine pureV_if (by omega) ?_; simp -implicitDefEqProofs [*]))
  | true =>
    have g1 := take_Item x i hs h
    have g2 := ref_Take x i hs h
    rw [Bool.and_eq_true] at h
    have hu := takeI_up (i := i) h.1
    obtain ⟨l1, l2, l3, l4⟩ := nodeUp_small hu
    have g3 := law_SameNode (takeI x i) (takeI x i) (nodeUp_small2 hu)
    have g4 := law_SpoilNode (takeI x i) (by unfold cap16; omega) (by unfold cap16; omega) (by unfold cap16; omega) (by unfold cap16; omega)
    clear h hu
    generalize takeI x i = y at *
    simp only [nodeD, Node.cells, peersD, intsD, itemsD, toldsD, Item.row, copyD, nodeB] at g0 g1 g2 g3 g4 g5
    refine den_of [11, 15] [34] is_gimmallaw20_Takes ?_
    simp -implicitDefEqProofs [c_gimmallaw20_Takes, nodeD, Node.cells, peersD, intsD, itemsD, toldsD, Item.row]
    refine callThen_of g0 ?_
    simp -implicitDefEqProofs [downTo]
    refine callThen_of g1 ?_
    simp -implicitDefEqProofs [downTo]
    refine callThen_of g2 ?_
    simp -implicitDefEqProofs [downTo]
    refine callThen_of g3 ?_
    simp -implicitDefEqProofs
    repeat' (first | (refine callThen_of (by first | exact law_Num _) ?_; simp -implicitDefEqProofs [*]) | (with_reducible refine gOps_dec (fun _ => ?_) (fun _ => ?_) <;> simp -implicitDefEqProofs [*]) | (with_reducible refine gOps_ndec (fun _ => ?_) (fun _ => ?_) <;> simp -implicitDefEqProofs [*]) | (with_reducible refine gOps_and (fun hq => ?_) (fun hq => ?_) <;> (try simp at hq) <;> simp -implicitDefEqProofs [*]) | (with_reducible refine gOps_or (fun hq => ?_) (fun hq => ?_) <;> (try simp at hq) <;> simp -implicitDefEqProofs [*]) | (with_reducible refine gOps_not (fun hq => ?_) (fun hq => ?_) <;> (try simp at hq) <;> simp -implicitDefEqProofs [*]) | (with_reducible refine gOps_split (fun hq => ?_) (fun hq => ?_) <;> (try simp at hq) <;> simp -implicitDefEqProofs [*]) | (with_reducible refine condC_dec (fun _ => ?_) (fun _ => ?_) <;> simp -implicitDefEqProofs [*]) | (with_reducible refine condC_ndec (fun _ => ?_) (fun _ => ?_) <;> simp -implicitDefEqProofs [*]) | (with_reducible refine condC_and (fun hq => ?_) (fun hq => ?_) <;> (try simp at hq) <;> simp -implicitDefEqProofs [*]) | (with_reducible refine condC_or (fun hq => ?_) (fun hq => ?_) <;> (try simp at hq) <;> simp -implicitDefEqProofs [*]) | (with_reducible refine condC_not (fun hq => ?_) (fun hq => ?_) <;> (try simp at hq) <;> simp -implicitDefEqProofs [*]) | (with_reducible refine condC_split (fun hq => ?_) (fun hq => ?_) <;> (try simp at hq) <;> simp -implicitDefEqProofs [*]) | (refine appK2_if (by omega) ?_; simp -implicitDefEqProofs [*]) | (refine pureV_if (by omega) ?_; simp -implicitDefEqProofs [*]))
    refine lendThen_frame [7, 8, 9, 10] rfl (by decide) (by simp) g4 (by simp) (by simp [lentBs]) ?_
    simp -implicitDefEqProofs [framed]
    repeat' (first | (refine callThen_of (by first | exact g5 | exact law20_awake) ?_; simp -implicitDefEqProofs [*]) | (with_reducible refine gOps_dec (fun _ => ?_) (fun _ => ?_) <;> simp -implicitDefEqProofs [*]) | (with_reducible refine gOps_ndec (fun _ => ?_) (fun _ => ?_) <;> simp -implicitDefEqProofs [*]) | (with_reducible refine gOps_and (fun hq => ?_) (fun hq => ?_) <;> (try simp at hq) <;> simp -implicitDefEqProofs [*]) | (with_reducible refine gOps_or (fun hq => ?_) (fun hq => ?_) <;> (try simp at hq) <;> simp -implicitDefEqProofs [*]) | (with_reducible refine gOps_not (fun hq => ?_) (fun hq => ?_) <;> (try simp at hq) <;> simp -implicitDefEqProofs [*]) | (with_reducible refine gOps_split (fun hq => ?_) (fun hq => ?_) <;> (try simp at hq) <;> simp -implicitDefEqProofs [*]) | (with_reducible refine condC_dec (fun _ => ?_) (fun _ => ?_) <;> simp -implicitDefEqProofs [*]) | (with_reducible refine condC_ndec (fun _ => ?_) (fun _ => ?_) <;> simp -implicitDefEqProofs [*]) | (with_reducible refine condC_and (fun hq => ?_) (fun hq => ?_) <;> (try simp at hq) <;> simp -implicitDefEqProofs [*]) | (with_reducible refine condC_or (fun hq => ?_) (fun hq => ?_) <;> (try simp at hq) <;> simp -implicitDefEqProofs [*]) | (with_reducible refine condC_not (fun hq => ?_) (fun hq => ?_) <;> (try simp at hq) <;> simp -implicitDefEqProofs [*]) | (with_reducible refine condC_split (fun hq => ?_) (fun hq => ?_) <;> (try simp at hq) <;> simp -implicitDefEqProofs [*]) | (refine appK2_if (by omega) ?_; simp -implicitDefEqProofs [*]) | (refine pureV_if (by omega) ?_; simp -implicitDefEqProofs [*]))
end Go.AM
/- Plain law: a store takes items twice. -/
namespace Go.AM
set_option linter.unusedSimpArgs false
set_option linter.unusedVariables false

def takeS (s : List Item) (i : Item) : List Item := if (putR s i).2 = 0 then (putR s i).1 else s
theorem takeS_eq {s : List Item} {i : Item} (h1 : storeMay s = true) (h2 : itemMay i = true) : takeS s i = if (putS i s).length ≤ 16 then putS i s else s := by
  unfold takeS putR
  rw [h1, h2]
  simp only [Bool.and_self, if_true]
  by_cases h : (putS i s).length ≤ 16 <;> simp [h]
theorem takeS_may {s : List Item} {i : Item} (h1 : storeMay s = true) : storeMay (takeS s i) = true := by
  unfold takeS
  split
  · rename_i h
    obtain ⟨_, _, h3, h4⟩ := putR_may h
    rw [h3]
    exact h4
  · exact h1
theorem takeS_again {s : List Item} {i : Item} (h1 : storeMay s = true) (h2 : itemMay i = true) : takeS (takeS s i) i = takeS s i := by
  have h3 := takeS_may (i := i) h1
  obtain ⟨_, hr, _⟩ := (storeMay_iff s).1 h1
  rw [takeS_eq h3 h2, takeS_eq h1 h2]
  by_cases h : (putS i s).length ≤ 16
  · rw [if_pos h, putS_self hr]
    simp
  · rw [if_neg h, if_neg h]
theorem takeS_back {s : List Item} {i j : Item} (h1 : storeMay s = true) (h2 : itemMay i = true) (h3 : itemMay j = true) : takeS (takeS (takeS s i) j) i = takeS (takeS s i) j := by
  have m1 := takeS_may (i := i) h1
  have m2 := takeS_may (i := j) m1
  obtain ⟨_, hr, hl⟩ := (storeMay_iff s).1 h1
  rw [takeS_eq m2 h2]
  by_cases hi : (putS i s).length ≤ 16
  · have e1 : takeS s i = putS i s := by rw [takeS_eq h1 h2, if_pos hi]
    have hr1 := putS_rising (x := i) hr
    by_cases hj : (putS j (putS i s)).length ≤ 16
    · have e2 : takeS (takeS s i) j = putS j (putS i s) := by rw [takeS_eq m1 h3, e1, if_pos hj]
      rw [e2, putS_swap hr1, putS_self hr]
      simp
    · have e2 : takeS (takeS s i) j = putS i s := by rw [takeS_eq m1 h3, e1, if_neg hj]
      rw [e2, putS_self hr]
      simp
  · have e1 : takeS s i = s := by rw [takeS_eq h1 h2, if_neg hi]
    have l1 := putS_length i s hr
    by_cases hj : (putS j s).length ≤ 16
    · have e2 : takeS (takeS s i) j = putS j s := by rw [takeS_eq m1 h3, e1, if_pos hj]
      rw [e2]
      have hr2 := putS_rising (x := j) hr
      have l2 := putS_length i (putS j s) hr2
      have l3 := putS_length j s hr
      have g := getS_putS j s hr i.key
      have hni : (getS s i.key).isSome = false := by
        cases h : (getS s i.key).isSome with
        | false => rfl
        | true => rw [h] at l1; simp at l1; omega
      rw [hni] at l1
      simp at l1
      have hjk : (getS s j.key).isSome = true := by
        cases h : (getS s j.key).isSome with
        | true => rfl
        | false => rw [h] at l3; simp at l3; omega
      have hne : i.key ≠ j.key := by
        intro e
        rw [e, hjk] at hni
        cases hni
      rw [if_neg hne] at g
      rw [g, hni] at l2
      rw [hjk] at l3
      simp at l2 l3
      rw [if_neg (by omega)]
    · have e2 : takeS (takeS s i) j = s := by rw [takeS_eq m1 h3, e1, if_neg hj]
      rw [e2, if_neg hi]
theorem takeS_get {s : List Item} {i : Item} (h1 : storeMay s = true) (h2 : itemMay i = true) :
    (getS s i.key = none ∧ s.length = 16 ∧ takeS s i = s) ∨ (getS s i.key = none ∧ s.length ≠ 16 ∧ getS (takeS s i) i.key = some i) ∨ (∃ o, getS s i.key = some o ∧ getS (takeS s i) i.key = some (bestI o i)) := by
  obtain ⟨_, hr, hl⟩ := (storeMay_iff s).1 h1
  have l1 := putS_length i s hr
  have g := getS_putS i s hr i.key
  rw [if_pos rfl] at g
  rw [takeS_eq h1 h2]
  cases hg : getS s i.key with
  | none =>
    rw [hg] at l1 g
    simp at l1
    by_cases h16 : s.length = 16
    · exact .inl ⟨rfl, h16, by rw [if_neg (by omega)]⟩
    · refine .inr (.inl ⟨rfl, h16, ?_⟩)
      rw [if_pos (by omega), g]
      rfl
  | some o =>
    rw [hg] at l1 g
    simp at l1
    refine .inr (.inr ⟨o, rfl, ?_⟩)
    rw [if_pos (by omega), g]
    rfl
end Go.AM
/- AM: chapter 20's statements: TakeTwice, TakeBest. -/
namespace Go.AM
set_option linter.unusedSimpArgs false
set_option linter.unusedVariables false
set_option maxRecDepth 8000
set_option maxHeartbeats 0
theorem takeI_S (x : Node) (i : Item) : takeI x i = { x with items := takeS x.items i } := by
  unfold takeI takeS
  split <;> rfl
def getT : Option Item → Item × Bool
  | some i => (i, true)
  | none => (zeroItem, false)
theorem getR_mayT {is : List Item} (h : storeMay is = true) (k : Int) : getR is k = getT (getS is k) := by
  unfold getR
  rw [if_pos h]
  cases getS is k <;> rfl
def zeroNode : Node := ⟨false, ⟨0, [], []⟩, [], []⟩
theorem small_zero : zeroNode.small := by unfold Node.small View.small cap16 cap zeroNode; simp
theorem law20_TakeTwice (x : Node) (i j : Item) (hs : x.small) : Den PP 12 [nodeD x, .agg i.row, .agg j.row] [] (.bool true) [] := by
  cases hi : nodeUp x && itemMay i with
  | false =>
    have g1 := take_Item_no x i hs hi
    have g2 := take_Item_no zeroNode j small_zero (by simp [zeroNode, nodeUp])
    have g3 := take_Item_no zeroNode i small_zero (by simp [zeroNode, nodeUp])
    simp [zeroNode, nodeD, Node.cells, peersD, intsD, itemsD, toldsD, Item.row] at g1 g2 g3
    refine den_of [] [] is_gimmallaw20_TakeTwice ?_
    simp -implicitDefEqProofs [c_gimmallaw20_TakeTwice, nodeD, Node.cells, peersD, intsD, itemsD, toldsD, Item.row]
    refine callThen_of law20_awake ?_
    simp -implicitDefEqProofs
    refine callThen_of g1 ?_
    simp -implicitDefEqProofs [downTo]
    refine callThen_nil rfl g2 (by simp) ?_
    simp -implicitDefEqProofs [downTo]
    refine callThen_nil rfl g3 (by simp) ?_
    simp -implicitDefEqProofs [downTo]
    refine callThen_nil rfl g2 (by simp) ?_
    simp -implicitDefEqProofs [downTo]
    repeat' (first | (refine callThen_of (by first | exact law_Num _) ?_; simp -implicitDefEqProofs [*]) | (with_reducible refine gOps_dec (fun _ => ?_) (fun _ => ?_) <;> simp -implicitDefEqProofs [*]) | (with_reducible refine gOps_ndec (fun _ => ?_) (fun _ => ?_) <;> simp -implicitDefEqProofs [*]) | (with_reducible refine gOps_and (fun hq => ?_) (fun hq => ?_) <;> (try simp at hq) <;> simp -implicitDefEqProofs [*]) | (with_reducible refine gOps_or (fun hq => ?_) (fun hq => ?_) <;> (try simp at hq) <;> simp -implicitDefEqProofs [*]) | (with_reducible refine gOps_not (fun hq => ?_) (fun hq => ?_) <;> (try simp at hq) <;> simp -implicitDefEqProofs [*]) | (with_reducible refine gOps_split (fun hq => ?_) (fun hq => ?_) <;> (try simp at hq) <;> simp -implicitDefEqProofs [*]) | (with_reducible refine condC_dec (fun _ => ?_) (fun _ => ?_) <;> simp -implicitDefEqProofs [*]) | (with_reducible refine condC_ndec (fun _ => ?_) (fun _ => ?_) <;> simp -implicitDefEqProofs [*]) | (with_reducible refine condC_and (fun hq => ?_) (fun hq => ?_) <;> (try simp at hq) <;> simp -implicitDefEqProofs [*]) | (with_reducible refine condC_or (fun hq => ?_) (fun hq => ?_) <;> (try simp at hq) <;> simp -implicitDefEqProofs [*]) | (with_reducible refine condC_not (fun hq => ?_) (fun hq => ?_) <;> (try simp at hq) <;> simp -implicitDefEqProofs [*]) | (with_reducible refine condC_split (fun hq => ?_) (fun hq => ?_) <;> (try simp at hq) <;> simp -implicitDefEqProofs [*]) | (refine appK2_if (by omega) ?_; simp -implicitDefEqProofs [*]) | (refine pureV_if (by omega) ?_; simp -implicitDefEqProofs [*]))
  | true =>
    have g1 := take_Item x i hs hi
    rw [Bool.and_eq_true] at hi
    obtain ⟨hu, hi⟩ := hi
    obtain ⟨k1, k2, k3, k4, k5⟩ := nodeUp_parts hu
    have hua := takeI_up (i := i) hu
    have hsa := nodeUp_small2 hua
    cases hj : itemMay j with
    | false =>
      have g2 := take_Item_no (takeI x i) j hsa (by simp [hj])
      have g3 := take_Item_no zeroNode i small_zero (by simp [zeroNode, nodeUp])
      have g4 := take_Item_no zeroNode j small_zero (by simp [zeroNode, nodeUp])
      generalize takeI x i = a at *
      simp [zeroNode, nodeD, copyD, nodeB, Node.cells, peersD, intsD, itemsD, toldsD, Item.row] at g1 g2 g3 g4
      refine den_of [] [] is_gimmallaw20_TakeTwice ?_
      simp -implicitDefEqProofs [c_gimmallaw20_TakeTwice, nodeD, Node.cells, peersD, intsD, itemsD, toldsD, Item.row]
      refine callThen_of law20_awake ?_
      simp -implicitDefEqProofs
      refine callThen_of g1 ?_
      simp -implicitDefEqProofs [downTo]
      refine callThen_of g2 ?_
      simp -implicitDefEqProofs [downTo]
      refine callThen_nil rfl g3 (by simp) ?_
      simp -implicitDefEqProofs [downTo]
      refine callThen_nil rfl g4 (by simp) ?_
      simp -implicitDefEqProofs [downTo]
      repeat' (first | (refine callThen_of (by first | exact law_Num _) ?_; simp -implicitDefEqProofs [*]) | (with_reducible refine gOps_dec (fun _ => ?_) (fun _ => ?_) <;> simp -implicitDefEqProofs [*]) | (with_reducible refine gOps_ndec (fun _ => ?_) (fun _ => ?_) <;> simp -implicitDefEqProofs [*]) | (with_reducible refine gOps_and (fun hq => ?_) (fun hq => ?_) <;> (try simp at hq) <;> simp -implicitDefEqProofs [*]) | (with_reducible refine gOps_or (fun hq => ?_) (fun hq => ?_) <;> (try simp at hq) <;> simp -implicitDefEqProofs [*]) | (with_reducible refine gOps_not (fun hq => ?_) (fun hq => ?_) <;> (try simp at hq) <;> simp -implicitDefEqProofs [*]) | (with_reducible refine gOps_split (fun hq => ?_) (fun hq => ?_) <;> (try simp at hq) <;> simp -implicitDefEqProofs [*]) | (with_reducible refine condC_dec (fun _ => ?_) (fun _ => ?_) <;> simp -implicitDefEqProofs [*]) | (with_reducible refine condC_ndec (fun _ => ?_) (fun _ => ?_) <;> simp -implicitDefEqProofs [*]) | (with_reducible refine condC_and (fun hq => ?_) (fun hq => ?_) <;> (try simp at hq) <;> simp -implicitDefEqProofs [*]) | (with_reducible refine condC_or (fun hq => ?_) (fun hq => ?_) <;> (try simp at hq) <;> simp -implicitDefEqProofs [*]) | (with_reducible refine condC_not (fun hq => ?_) (fun hq => ?_) <;> (try simp at hq) <;> simp -implicitDefEqProofs [*]) | (with_reducible refine condC_split (fun hq => ?_) (fun hq => ?_) <;> (try simp at hq) <;> simp -implicitDefEqProofs [*]) | (refine appK2_if (by omega) ?_; simp -implicitDefEqProofs [*]) | (refine pureV_if (by omega) ?_; simp -implicitDefEqProofs [*]))
    | true =>
      have hub := takeI_up (i := j) hua
      have hsb := nodeUp_small2 hub
      have e3 : takeI (takeI (takeI x i) j) i = takeI (takeI x i) j := by
        rw [takeI_S, takeI_S, takeI_S]
        simp only
        rw [takeS_back k3 hi hj]
      have e4 : takeI (takeI (takeI x i) j) j = takeI (takeI x i) j := by
        rw [takeI_S, takeI_S, takeI_S]
        simp only
        rw [takeS_again (takeS_may k3) hj]
      have g2 := take_Item (takeI x i) j hsa (by rw [hua, hj]; rfl)
      have g3 := take_Item (takeI (takeI x i) j) i hsb (by rw [hub, hi]; rfl)
      have g4 := take_Item (takeI (takeI x i) j) j hsb (by rw [hub, hj]; rfl)
      rw [e3] at g3
      rw [e4] at g4
      have g5 := law_SameNode (takeI (takeI x i) j) (takeI (takeI x i) j) hsb
      clear e3 e4 hub hsb hua hsa k1 k2 k3 k4 k5 hu hi hj
      generalize takeI (takeI x i) j = b at *
      generalize takeI x i = a at *
      simp only [nodeD, copyD, nodeB, Node.cells, peersD, intsD, itemsD, toldsD, Item.row] at g1 g2 g3 g4 g5
      refine den_of [] [] is_gimmallaw20_TakeTwice ?_
      simp -implicitDefEqProofs [c_gimmallaw20_TakeTwice, nodeD, Node.cells, peersD, intsD, itemsD, toldsD, Item.row]
      refine callThen_of law20_awake ?_
      simp -implicitDefEqProofs
      refine callThen_of g1 ?_
      simp -implicitDefEqProofs [downTo]
      refine callThen_of g2 ?_
      simp -implicitDefEqProofs [downTo]
      refine callThen_of g3 ?_
      simp -implicitDefEqProofs [downTo]
      refine callThen_of g4 ?_
      simp -implicitDefEqProofs [downTo]
      repeat' (first | (refine callThen_of (by first | exact law_Num _ | exact g5) ?_; simp -implicitDefEqProofs [*]) | (with_reducible refine gOps_dec (fun _ => ?_) (fun _ => ?_) <;> simp -implicitDefEqProofs [*]) | (with_reducible refine gOps_ndec (fun _ => ?_) (fun _ => ?_) <;> simp -implicitDefEqProofs [*]) | (with_reducible refine gOps_and (fun hq => ?_) (fun hq => ?_) <;> (try simp at hq) <;> simp -implicitDefEqProofs [*]) | (with_reducible refine gOps_or (fun hq => ?_) (fun hq => ?_) <;> (try simp at hq) <;> simp -implicitDefEqProofs [*]) | (with_reducible refine gOps_not (fun hq => ?_) (fun hq => ?_) <;> (try simp at hq) <;> simp -implicitDefEqProofs [*]) | (with_reducible refine gOps_split (fun hq => ?_) (fun hq => ?_) <;> (try simp at hq) <;> simp -implicitDefEqProofs [*]) | (with_reducible refine condC_dec (fun _ => ?_) (fun _ => ?_) <;> simp -implicitDefEqProofs [*]) | (with_reducible refine condC_ndec (fun _ => ?_) (fun _ => ?_) <;> simp -implicitDefEqProofs [*]) | (with_reducible refine condC_and (fun hq => ?_) (fun hq => ?_) <;> (try simp at hq) <;> simp -implicitDefEqProofs [*]) | (with_reducible refine condC_or (fun hq => ?_) (fun hq => ?_) <;> (try simp at hq) <;> simp -implicitDefEqProofs [*]) | (with_reducible refine condC_not (fun hq => ?_) (fun hq => ?_) <;> (try simp at hq) <;> simp -implicitDefEqProofs [*]) | (with_reducible refine condC_split (fun hq => ?_) (fun hq => ?_) <;> (try simp at hq) <;> simp -implicitDefEqProofs [*]) | (refine appK2_if (by omega) ?_; simp -implicitDefEqProofs [*]) | (refine pureV_if (by omega) ?_; simp -implicitDefEqProofs [*]))
theorem law20_TakeBest (x : Node) (i : Item) (hs : x.small) : Den PP 11 [nodeD x, .agg i.row] [] (.bool true) [] := by
  cases hi : nodeUp x && itemMay i with
  | false =>
    have g1 := take_Item_no x i hs hi
    have g2 := law_SameNode zeroNode zeroNode small_zero
    simp [zeroNode, nodeD, Node.cells, peersD, intsD, itemsD, toldsD, Item.row] at g1 g2
    refine den_of [] [] is_gimmallaw20_TakeBest ?_
    simp -implicitDefEqProofs [c_gimmallaw20_TakeBest, nodeD, Node.cells, peersD, intsD, itemsD, toldsD, Item.row]
    refine callThen_of law20_awake ?_
    simp -implicitDefEqProofs
    refine callThen_of g1 ?_
    simp -implicitDefEqProofs [downTo]
    repeat' (first | (refine callThen_of (by first | exact law_Num _) ?_; simp -implicitDefEqProofs [*]) | (with_reducible refine gOps_dec (fun _ => ?_) (fun _ => ?_) <;> simp -implicitDefEqProofs [*]) | (with_reducible refine gOps_ndec (fun _ => ?_) (fun _ => ?_) <;> simp -implicitDefEqProofs [*]) | (with_reducible refine gOps_and (fun hq => ?_) (fun hq => ?_) <;> (try simp at hq) <;> simp -implicitDefEqProofs [*]) | (with_reducible refine gOps_or (fun hq => ?_) (fun hq => ?_) <;> (try simp at hq) <;> simp -implicitDefEqProofs [*]) | (with_reducible refine gOps_not (fun hq => ?_) (fun hq => ?_) <;> (try simp at hq) <;> simp -implicitDefEqProofs [*]) | (with_reducible refine gOps_split (fun hq => ?_) (fun hq => ?_) <;> (try simp at hq) <;> simp -implicitDefEqProofs [*]) | (with_reducible refine condC_dec (fun _ => ?_) (fun _ => ?_) <;> simp -implicitDefEqProofs [*]) | (with_reducible refine condC_ndec (fun _ => ?_) (fun _ => ?_) <;> simp -implicitDefEqProofs [*]) | (with_reducible refine condC_and (fun hq => ?_) (fun hq => ?_) <;> (try simp at hq) <;> simp -implicitDefEqProofs [*]) | (with_reducible refine condC_or (fun hq => ?_) (fun hq => ?_) <;> (try simp at hq) <;> simp -implicitDefEqProofs [*]) | (with_reducible refine condC_not (fun hq => ?_) (fun hq => ?_) <;> (try simp at hq) <;> simp -implicitDefEqProofs [*]) | (with_reducible refine condC_split (fun hq => ?_) (fun hq => ?_) <;> (try simp at hq) <;> simp -implicitDefEqProofs [*]) | (refine appK2_if (by omega) ?_; simp -implicitDefEqProofs [*]) | (refine pureV_if (by omega) ?_; simp -implicitDefEqProofs [*]))
    refine callThen_nil rfl g2 (by simp) ?_
    simp -implicitDefEqProofs
  | true =>
    have g1 := take_Item x i hs hi
    rw [Bool.and_eq_true] at hi
    obtain ⟨hu, hi⟩ := hi
    obtain ⟨k1, k2, k3, k4, k5⟩ := nodeUp_parts hu
    have hua := takeI_up (i := i) hu
    have hsa := nodeUp_small2 hua
    obtain ⟨l1, l2, l3, l4⟩ := nodeUp_small hu
    have g2 := ref_GetStore x.items i.key (by unfold cap16; omega)
    have g3 := ref_GetStore (takeS x.items i) i.key (by have := ((storeMay_iff _).1 (takeS_may (i := i) k3)).2.2; unfold cap16; omega)
    have g4 := law_SameView x.view x.view hs.1
    have g5 := law_SameTolds x.log x.log (by unfold cap; omega)
    have g6 := ref_NodeMay (takeI x i) hsa
    have hnm : nodeMay (takeI x i) = true := by simp [nodeUp] at hua; exact hua.2
    rw [hnm] at g6
    have g7 := law_SameItems x.items x.items (by unfold cap; omega)
    have hst := takeS_get k3 hi
    have hk := fun o => @getS_key x.items i.key o
    rw [getR_mayT k3] at g2
    rw [getR_mayT (takeS_may k3)] at g3
    have hmi := ((storeMay_iff _).1 k3).1
    rw [takeI_S] at g1 g6
    clear hnm hua hsa k1 k2 k4 k5 l1 l2 l4 hu
    obtain ⟨u, v, is, lg⟩ := x
    simp only at *
    rcases hst with ⟨h1, h2, h3⟩ | ⟨h1, h2, h3⟩ | ⟨o, h1, h3⟩
    · rw [h1] at g2
      rw [h3, h1] at g3
      rw [h3] at g1 g6
      clear h1 h3 hk hmi
      simp only [getT, zeroItem, viewD, View.cells, nodeD, copyD, nodeB, Node.cells, peersD, intsD, itemsD, toldsD, Item.row] at g1 g2 g3 g4 g5 g6 g7
      rw [h2] at g6 g7
      refine den_of [] [] is_gimmallaw20_TakeBest ?_
      simp -implicitDefEqProofs [c_gimmallaw20_TakeBest, viewD, View.cells, nodeD, Node.cells, peersD, intsD, itemsD, toldsD, Item.row]
      refine callThen_of law20_awake ?_
      simp -implicitDefEqProofs
      refine callThen_of g1 ?_
      simp -implicitDefEqProofs [downTo]
      refine callThen_of (law_Num _) ?_
      simp -implicitDefEqProofs [downTo]
      refine callThen_of g2 ?_
      simp -implicitDefEqProofs [downTo]
      refine callThen_of g3 ?_
      simp -implicitDefEqProofs [downTo]
      repeat' (first | (refine callThen_of (by first | exact g4 | exact g5 | exact g6 | exact g7) ?_; simp -implicitDefEqProofs [*, h2]) | (with_reducible refine gOps_dec (fun _ => ?_) (fun _ => ?_) <;> simp -implicitDefEqProofs [*, h2]) | (with_reducible refine gOps_ndec (fun _ => ?_) (fun _ => ?_) <;> simp -implicitDefEqProofs [*, h2]) | (with_reducible refine gOps_and (fun hq => ?_) (fun hq => ?_) <;> (try simp at hq) <;> simp -implicitDefEqProofs [*, h2]) | (with_reducible refine gOps_or (fun hq => ?_) (fun hq => ?_) <;> (try simp at hq) <;> simp -implicitDefEqProofs [*, h2]) | (with_reducible refine gOps_not (fun hq => ?_) (fun hq => ?_) <;> (try simp at hq) <;> simp -implicitDefEqProofs [*, h2]) | (with_reducible refine gOps_split (fun hq => ?_) (fun hq => ?_) <;> (try simp at hq) <;> simp -implicitDefEqProofs [*, h2]) | (with_reducible refine condC_dec (fun _ => ?_) (fun _ => ?_) <;> simp -implicitDefEqProofs [*, h2]) | (with_reducible refine condC_ndec (fun _ => ?_) (fun _ => ?_) <;> simp -implicitDefEqProofs [*, h2]) | (with_reducible refine condC_and (fun hq => ?_) (fun hq => ?_) <;> (try simp at hq) <;> simp -implicitDefEqProofs [*, h2]) | (with_reducible refine condC_or (fun hq => ?_) (fun hq => ?_) <;> (try simp at hq) <;> simp -implicitDefEqProofs [*, h2]) | (with_reducible refine condC_not (fun hq => ?_) (fun hq => ?_) <;> (try simp at hq) <;> simp -implicitDefEqProofs [*, h2]) | (with_reducible refine condC_split (fun hq => ?_) (fun hq => ?_) <;> (try simp at hq) <;> simp -implicitDefEqProofs [*, h2]) | (refine appK2_if (by omega) ?_; simp -implicitDefEqProofs [*, h2]) | (refine pureV_if (by omega) ?_; simp -implicitDefEqProofs [*, h2]))
    · rw [h1] at g2
      rw [h3] at g3
      clear h1 h3 hk hmi
      generalize takeS is i = is' at *
      have h2' : ¬ (is.length : Int) = 16 := by omega
      simp only [getT, zeroItem, viewD, View.cells, nodeD, copyD, nodeB, Node.cells, peersD, intsD, itemsD, toldsD, Item.row] at g1 g2 g3 g4 g5 g6 g7
      refine den_of [] [] is_gimmallaw20_TakeBest ?_
      simp -implicitDefEqProofs [c_gimmallaw20_TakeBest, viewD, View.cells, nodeD, Node.cells, peersD, intsD, itemsD, toldsD, Item.row]
      refine callThen_of law20_awake ?_
      simp -implicitDefEqProofs
      refine callThen_of g1 ?_
      simp -implicitDefEqProofs [downTo]
      refine callThen_of (law_Num _) ?_
      simp -implicitDefEqProofs [downTo]
      refine callThen_of g2 ?_
      simp -implicitDefEqProofs [downTo]
      refine callThen_of g3 ?_
      simp -implicitDefEqProofs [downTo]
      repeat' (first | (refine callThen_of (by first | exact g4 | exact g5 | exact g6 | exact g7) ?_; simp -implicitDefEqProofs [*, h2', EQS]) | (with_reducible refine gOps_dec (fun _ => ?_) (fun _ => ?_) <;> simp -implicitDefEqProofs [*, h2', EQS]) | (with_reducible refine gOps_ndec (fun _ => ?_) (fun _ => ?_) <;> simp -implicitDefEqProofs [*, h2', EQS]) | (with_reducible refine gOps_and (fun hq => ?_) (fun hq => ?_) <;> (try simp at hq) <;> simp -implicitDefEqProofs [*, h2', EQS]) | (with_reducible refine gOps_or (fun hq => ?_) (fun hq => ?_) <;> (try simp at hq) <;> simp -implicitDefEqProofs [*, h2', EQS]) | (with_reducible refine gOps_not (fun hq => ?_) (fun hq => ?_) <;> (try simp at hq) <;> simp -implicitDefEqProofs [*, h2', EQS]) | (with_reducible refine gOps_split (fun hq => ?_) (fun hq => ?_) <;> (try simp at hq) <;> simp -implicitDefEqProofs [*, h2', EQS]) | (with_reducible refine condC_dec (fun _ => ?_) (fun _ => ?_) <;> simp -implicitDefEqProofs [*, h2', EQS]) | (with_reducible refine condC_ndec (fun _ => ?_) (fun _ => ?_) <;> simp -implicitDefEqProofs [*, h2', EQS]) | (with_reducible refine condC_and (fun hq => ?_) (fun hq => ?_) <;> (try simp at hq) <;> simp -implicitDefEqProofs [*, h2', EQS]) | (with_reducible refine condC_or (fun hq => ?_) (fun hq => ?_) <;> (try simp at hq) <;> simp -implicitDefEqProofs [*, h2', EQS]) | (with_reducible refine condC_not (fun hq => ?_) (fun hq => ?_) <;> (try simp at hq) <;> simp -implicitDefEqProofs [*, h2', EQS]) | (with_reducible refine condC_split (fun hq => ?_) (fun hq => ?_) <;> (try simp at hq) <;> simp -implicitDefEqProofs [*, h2', EQS]) | (refine appK2_if (by omega) ?_; simp -implicitDefEqProofs [*, h2', EQS]) | (refine pureV_if (by omega) ?_; simp -implicitDefEqProofs [*, h2', EQS]))
    · rw [h1] at g2
      rw [h3] at g3
      obtain ⟨hko, hmo⟩ := hk o h1
      have g8 := ref_Best o i
      rw [show bestR o i = (bestI o i, 0) by simp [bestR, hmi o hmo, hi, hko]] at g8
      clear h1 h3 hk hmi hko hmo
      generalize takeS is i = is' at *
      generalize bestI o i = b at *
      simp only [getT, zeroItem, viewD, View.cells, nodeD, copyD, nodeB, Node.cells, peersD, intsD, itemsD, toldsD, Item.row] at g1 g2 g3 g4 g5 g6 g7 g8
      refine den_of [] [] is_gimmallaw20_TakeBest ?_
      simp -implicitDefEqProofs [c_gimmallaw20_TakeBest, viewD, View.cells, nodeD, Node.cells, peersD, intsD, itemsD, toldsD, Item.row]
      refine callThen_of law20_awake ?_
      simp -implicitDefEqProofs
      refine callThen_of g1 ?_
      simp -implicitDefEqProofs [downTo]
      refine callThen_of (law_Num _) ?_
      simp -implicitDefEqProofs [downTo]
      refine callThen_of g2 ?_
      simp -implicitDefEqProofs [downTo]
      refine callThen_of g3 ?_
      simp -implicitDefEqProofs [downTo]
      repeat' (first | (refine callThen_of (by first | exact g4 | exact g5 | exact g6 | exact g7 | exact g8 | exact law_Num _) ?_; simp -implicitDefEqProofs [*, EQS]) | (with_reducible refine gOps_dec (fun _ => ?_) (fun _ => ?_) <;> simp -implicitDefEqProofs [*, EQS]) | (with_reducible refine gOps_ndec (fun _ => ?_) (fun _ => ?_) <;> simp -implicitDefEqProofs [*, EQS]) | (with_reducible refine gOps_and (fun hq => ?_) (fun hq => ?_) <;> (try simp at hq) <;> simp -implicitDefEqProofs [*, EQS]) | (with_reducible refine gOps_or (fun hq => ?_) (fun hq => ?_) <;> (try simp at hq) <;> simp -implicitDefEqProofs [*, EQS]) | (with_reducible refine gOps_not (fun hq => ?_) (fun hq => ?_) <;> (try simp at hq) <;> simp -implicitDefEqProofs [*, EQS]) | (with_reducible refine gOps_split (fun hq => ?_) (fun hq => ?_) <;> (try simp at hq) <;> simp -implicitDefEqProofs [*, EQS]) | (with_reducible refine condC_dec (fun _ => ?_) (fun _ => ?_) <;> simp -implicitDefEqProofs [*, EQS]) | (with_reducible refine condC_ndec (fun _ => ?_) (fun _ => ?_) <;> simp -implicitDefEqProofs [*, EQS]) | (with_reducible refine condC_and (fun hq => ?_) (fun hq => ?_) <;> (try simp at hq) <;> simp -implicitDefEqProofs [*, EQS]) | (with_reducible refine condC_or (fun hq => ?_) (fun hq => ?_) <;> (try simp at hq) <;> simp -implicitDefEqProofs [*, EQS]) | (with_reducible refine condC_not (fun hq => ?_) (fun hq => ?_) <;> (try simp at hq) <;> simp -implicitDefEqProofs [*, EQS]) | (with_reducible refine condC_split (fun hq => ?_) (fun hq => ?_) <;> (try simp at hq) <;> simp -implicitDefEqProofs [*, EQS]) | (refine appK2_if (by omega) ?_; simp -implicitDefEqProofs [*, EQS]) | (refine pureV_if (by omega) ?_; simp -implicitDefEqProofs [*, EQS]))
end Go.AM
/- AM: chapter 20's statements: TakeForms. -/
namespace Go.AM
set_option linter.unusedSimpArgs false
set_option linter.unusedVariables false
set_option maxRecDepth 8000
set_option maxHeartbeats 0
theorem bad_take (b : Node) (h : nodeUp b = false) (hs : b.small) : Den PP 39 [nodeD b, .agg (itT 5 1).row] [] (.tup [.agg [.bool false, .int .i64 0, .nil, .nil, .nil, .nil], .int .i64 2000]) [] :=
  take_Item_no b _ hs (by rw [h]; rfl)
theorem law20_TakeForms (which x : Int) : Den PP 10 [.int .i64 which, .int .i64 x] [] (.bool true) [] := by
  have hd : 0 ≤ x % 1024 ∧ x % 1024 < 1024 := by omega
  have w1 : IntKind.wrap .i64 (1 + x % 1024) = 1 + x % 1024 := wrap_in (by omega) (by omega)
  have w2 : IntKind.wrap .i64 (64 + (1 + x % 1024)) = 64 + (1 + x % 1024) := wrap_in (by omega) (by omega)
  have b1 : (0 : Int) ≤ 64 + (1 + x % 1024) := by omega
  have b2 : (64 + (1 + x % 1024)) * 24 ≤ 140737488355328 := by omega
  have b3 : 64 + (1 + x % 1024) ≤ 9223372036854775807 := by omega
  have i1 := law20_it 9 0
  have i2 := law20_it 5 1
  have i3 := law20_it 5 0
  have g0 := law20_node100
  have g1 := take_Item_no nodeT (itT 5 0) small_nodeT (by decide +kernel)
  have g2 := law_SameNode zeroNode zeroNode small_zero
  simp [zeroNode, nodeT, itT, nodeD, Node.cells, peersD, intsD, itemsD, toldsD, Peer.row, irow, Item.row, Told.row] at i1 i2 i3 g0 g1 g2
  have hw : which % 4 = 0 ∨ which % 4 = 1 ∨ which % 4 = 2 ∨ which % 4 = 3 := by omega
  refine den_of [16, 44] [] is_gimmallaw20_TakeForms ?_
  rcases hw with hw | hw | hw | hw
  · have c1 := bad_take ⟨false, ⟨100, [], []⟩, [], []⟩ (by decide +kernel) (by unfold Node.small View.small cap16 cap; simp [nodeT]; try omega)
    simp [nodeT, itT, nodeD, Node.cells, peersD, intsD, itemsD, toldsD, Peer.row, irow, Item.row, Told.row] at c1
    simp -implicitDefEqProofs [c_gimmallaw20_TakeForms, hw, w1, w2]
    repeat' (first | (refine callThen_of (by first | exact law20_awake | exact g0 | exact c1 | exact den_nrm (c1) | exact den_nrm (by simpa using c1) | exact g1 | exact den_nrm (g1) | exact den_nrm (by simpa using g1) | exact g2 | exact den_nrm (g2) | exact den_nrm (by simpa using g2) | exact law_Num _ | exact i1 | exact i2 | exact i3) ?_; simp -implicitDefEqProofs [*, downTo, hw, w1, w2, b1, b2, b3, reach]) | (with_reducible refine gOps_dec (fun _ => ?_) (fun _ => ?_) <;> simp -implicitDefEqProofs [*, downTo, hw, w1, w2, b1, b2, b3, reach]) | (with_reducible refine gOps_ndec (fun _ => ?_) (fun _ => ?_) <;> simp -implicitDefEqProofs [*, downTo, hw, w1, w2, b1, b2, b3, reach]) | (with_reducible refine gOps_and (fun hq => ?_) (fun hq => ?_) <;> (try simp at hq) <;> simp -implicitDefEqProofs [*, downTo, hw, w1, w2, b1, b2, b3, reach]) | (with_reducible refine gOps_or (fun hq => ?_) (fun hq => ?_) <;> (try simp at hq) <;> simp -implicitDefEqProofs [*, downTo, hw, w1, w2, b1, b2, b3, reach]) | (with_reducible refine gOps_not (fun hq => ?_) (fun hq => ?_) <;> (try simp at hq) <;> simp -implicitDefEqProofs [*, downTo, hw, w1, w2, b1, b2, b3, reach]) | (with_reducible refine gOps_split (fun hq => ?_) (fun hq => ?_) <;> (try simp at hq) <;> simp -implicitDefEqProofs [*, downTo, hw, w1, w2, b1, b2, b3, reach]) | (with_reducible refine condC_dec (fun _ => ?_) (fun _ => ?_) <;> simp -implicitDefEqProofs [*, downTo, hw, w1, w2, b1, b2, b3, reach]) | (with_reducible refine condC_ndec (fun _ => ?_) (fun _ => ?_) <;> simp -implicitDefEqProofs [*, downTo, hw, w1, w2, b1, b2, b3, reach]) | (with_reducible refine condC_and (fun hq => ?_) (fun hq => ?_) <;> (try simp at hq) <;> simp -implicitDefEqProofs [*, downTo, hw, w1, w2, b1, b2, b3, reach]) | (with_reducible refine condC_or (fun hq => ?_) (fun hq => ?_) <;> (try simp at hq) <;> simp -implicitDefEqProofs [*, downTo, hw, w1, w2, b1, b2, b3, reach]) | (with_reducible refine condC_not (fun hq => ?_) (fun hq => ?_) <;> (try simp at hq) <;> simp -implicitDefEqProofs [*, downTo, hw, w1, w2, b1, b2, b3, reach]) | (with_reducible refine condC_split (fun hq => ?_) (fun hq => ?_) <;> (try simp at hq) <;> simp -implicitDefEqProofs [*, downTo, hw, w1, w2, b1, b2, b3, reach]) | (refine appK2_if (by omega) ?_; simp -implicitDefEqProofs [*, downTo, hw, w1, w2, b1, b2, b3, reach]) | (refine pureV_if (by omega) ?_; simp -implicitDefEqProofs [*, downTo, hw, w1, w2, b1, b2, b3, reach]))
    all_goals trace_state
  · have c1 := bad_take { nodeT with items := [⟨9, 0, 1, 0, false⟩] } (by decide +kernel) (by unfold Node.small View.small cap16 cap; simp [nodeT]; try omega)
    simp [nodeT, itT, nodeD, Node.cells, peersD, intsD, itemsD, toldsD, Peer.row, irow, Item.row, Told.row] at c1
    simp -implicitDefEqProofs [c_gimmallaw20_TakeForms, hw, w1, w2]
    repeat' (first | (refine callThen_of (by first | exact law20_awake | exact g0 | exact c1 | exact den_nrm (c1) | exact den_nrm (by simpa using c1) | exact g1 | exact den_nrm (g1) | exact den_nrm (by simpa using g1) | exact g2 | exact den_nrm (g2) | exact den_nrm (by simpa using g2) | exact law_Num _ | exact i1 | exact i2 | exact i3) ?_; simp -implicitDefEqProofs [*, downTo, hw, w1, w2, b1, b2, b3, reach]) | (with_reducible refine gOps_dec (fun _ => ?_) (fun _ => ?_) <;> simp -implicitDefEqProofs [*, downTo, hw, w1, w2, b1, b2, b3, reach]) | (with_reducible refine gOps_ndec (fun _ => ?_) (fun _ => ?_) <;> simp -implicitDefEqProofs [*, downTo, hw, w1, w2, b1, b2, b3, reach]) | (with_reducible refine gOps_and (fun hq => ?_) (fun hq => ?_) <;> (try simp at hq) <;> simp -implicitDefEqProofs [*, downTo, hw, w1, w2, b1, b2, b3, reach]) | (with_reducible refine gOps_or (fun hq => ?_) (fun hq => ?_) <;> (try simp at hq) <;> simp -implicitDefEqProofs [*, downTo, hw, w1, w2, b1, b2, b3, reach]) | (with_reducible refine gOps_not (fun hq => ?_) (fun hq => ?_) <;> (try simp at hq) <;> simp -implicitDefEqProofs [*, downTo, hw, w1, w2, b1, b2, b3, reach]) | (with_reducible refine gOps_split (fun hq => ?_) (fun hq => ?_) <;> (try simp at hq) <;> simp -implicitDefEqProofs [*, downTo, hw, w1, w2, b1, b2, b3, reach]) | (with_reducible refine condC_dec (fun _ => ?_) (fun _ => ?_) <;> simp -implicitDefEqProofs [*, downTo, hw, w1, w2, b1, b2, b3, reach]) | (with_reducible refine condC_ndec (fun _ => ?_) (fun _ => ?_) <;> simp -implicitDefEqProofs [*, downTo, hw, w1, w2, b1, b2, b3, reach]) | (with_reducible refine condC_and (fun hq => ?_) (fun hq => ?_) <;> (try simp at hq) <;> simp -implicitDefEqProofs [*, downTo, hw, w1, w2, b1, b2, b3, reach]) | (with_reducible refine condC_or (fun hq => ?_) (fun hq => ?_) <;> (try simp at hq) <;> simp -implicitDefEqProofs [*, downTo, hw, w1, w2, b1, b2, b3, reach]) | (with_reducible refine condC_not (fun hq => ?_) (fun hq => ?_) <;> (try simp at hq) <;> simp -implicitDefEqProofs [*, downTo, hw, w1, w2, b1, b2, b3, reach]) | (with_reducible refine condC_split (fun hq => ?_) (fun hq => ?_) <;> (try simp at hq) <;> simp -implicitDefEqProofs [*, downTo, hw, w1, w2, b1, b2, b3, reach]) | (refine appK2_if (by omega) ?_; simp -implicitDefEqProofs [*, downTo, hw, w1, w2, b1, b2, b3, reach]) | (refine pureV_if (by omega) ?_; simp -implicitDefEqProofs [*, downTo, hw, w1, w2, b1, b2, b3, reach]))
    all_goals trace_state
  · have c1 := bad_take { nodeT with view := { nodeT.view with passive := [100] } } (by decide +kernel) (by unfold Node.small View.small cap16 cap; simp [nodeT]; try omega)
    simp [nodeT, itT, nodeD, Node.cells, peersD, intsD, itemsD, toldsD, Peer.row, irow, Item.row, Told.row] at c1
    simp -implicitDefEqProofs [c_gimmallaw20_TakeForms, hw, w1, w2]
    repeat' (first | (refine callThen_of (by first | exact law20_awake | exact g0 | exact c1 | exact den_nrm (c1) | exact den_nrm (by simpa using c1) | exact g1 | exact den_nrm (g1) | exact den_nrm (by simpa using g1) | exact g2 | exact den_nrm (g2) | exact den_nrm (by simpa using g2) | exact law_Num _ | exact i1 | exact i2 | exact i3) ?_; simp -implicitDefEqProofs [*, downTo, hw, w1, w2, b1, b2, b3, reach]) | (with_reducible refine gOps_dec (fun _ => ?_) (fun _ => ?_) <;> simp -implicitDefEqProofs [*, downTo, hw, w1, w2, b1, b2, b3, reach]) | (with_reducible refine gOps_ndec (fun _ => ?_) (fun _ => ?_) <;> simp -implicitDefEqProofs [*, downTo, hw, w1, w2, b1, b2, b3, reach]) | (with_reducible refine gOps_and (fun hq => ?_) (fun hq => ?_) <;> (try simp at hq) <;> simp -implicitDefEqProofs [*, downTo, hw, w1, w2, b1, b2, b3, reach]) | (with_reducible refine gOps_or (fun hq => ?_) (fun hq => ?_) <;> (try simp at hq) <;> simp -implicitDefEqProofs [*, downTo, hw, w1, w2, b1, b2, b3, reach]) | (with_reducible refine gOps_not (fun hq => ?_) (fun hq => ?_) <;> (try simp at hq) <;> simp -implicitDefEqProofs [*, downTo, hw, w1, w2, b1, b2, b3, reach]) | (with_reducible refine gOps_split (fun hq => ?_) (fun hq => ?_) <;> (try simp at hq) <;> simp -implicitDefEqProofs [*, downTo, hw, w1, w2, b1, b2, b3, reach]) | (with_reducible refine condC_dec (fun _ => ?_) (fun _ => ?_) <;> simp -implicitDefEqProofs [*, downTo, hw, w1, w2, b1, b2, b3, reach]) | (with_reducible refine condC_ndec (fun _ => ?_) (fun _ => ?_) <;> simp -implicitDefEqProofs [*, downTo, hw, w1, w2, b1, b2, b3, reach]) | (with_reducible refine condC_and (fun hq => ?_) (fun hq => ?_) <;> (try simp at hq) <;> simp -implicitDefEqProofs [*, downTo, hw, w1, w2, b1, b2, b3, reach]) | (with_reducible refine condC_or (fun hq => ?_) (fun hq => ?_) <;> (try simp at hq) <;> simp -implicitDefEqProofs [*, downTo, hw, w1, w2, b1, b2, b3, reach]) | (with_reducible refine condC_not (fun hq => ?_) (fun hq => ?_) <;> (try simp at hq) <;> simp -implicitDefEqProofs [*, downTo, hw, w1, w2, b1, b2, b3, reach]) | (with_reducible refine condC_split (fun hq => ?_) (fun hq => ?_) <;> (try simp at hq) <;> simp -implicitDefEqProofs [*, downTo, hw, w1, w2, b1, b2, b3, reach]) | (refine appK2_if (by omega) ?_; simp -implicitDefEqProofs [*, downTo, hw, w1, w2, b1, b2, b3, reach]) | (refine pureV_if (by omega) ?_; simp -implicitDefEqProofs [*, downTo, hw, w1, w2, b1, b2, b3, reach]))
    all_goals trace_state
  · have c1 := bad_take { nodeT with log := List.replicate (64 + (1 + x % 1024)).toNat ⟨0, false, 0⟩ } (by simp [nodeUp, nodeMay]; omega) (by unfold Node.small View.small cap16 cap; simp [nodeT]; try omega)
    simp [nodeT, itT, nodeD, Node.cells, peersD, intsD, itemsD, toldsD, Peer.row, irow, Item.row, Told.row] at c1
    simp -implicitDefEqProofs [c_gimmallaw20_TakeForms, hw, w1, w2]
    repeat' (first | (refine callThen_of (by first | exact law20_awake | exact g0 | exact c1 | exact den_nrm (c1) | exact den_nrm (by simpa using c1) | exact g1 | exact den_nrm (g1) | exact den_nrm (by simpa using g1) | exact g2 | exact den_nrm (g2) | exact den_nrm (by simpa using g2) | exact law_Num _ | exact i1 | exact i2 | exact i3) ?_; simp -implicitDefEqProofs [*, downTo, hw, w1, w2, b1, b2, b3, reach]) | (with_reducible refine gOps_dec (fun _ => ?_) (fun _ => ?_) <;> simp -implicitDefEqProofs [*, downTo, hw, w1, w2, b1, b2, b3, reach]) | (with_reducible refine gOps_ndec (fun _ => ?_) (fun _ => ?_) <;> simp -implicitDefEqProofs [*, downTo, hw, w1, w2, b1, b2, b3, reach]) | (with_reducible refine gOps_and (fun hq => ?_) (fun hq => ?_) <;> (try simp at hq) <;> simp -implicitDefEqProofs [*, downTo, hw, w1, w2, b1, b2, b3, reach]) | (with_reducible refine gOps_or (fun hq => ?_) (fun hq => ?_) <;> (try simp at hq) <;> simp -implicitDefEqProofs [*, downTo, hw, w1, w2, b1, b2, b3, reach]) | (with_reducible refine gOps_not (fun hq => ?_) (fun hq => ?_) <;> (try simp at hq) <;> simp -implicitDefEqProofs [*, downTo, hw, w1, w2, b1, b2, b3, reach]) | (with_reducible refine gOps_split (fun hq => ?_) (fun hq => ?_) <;> (try simp at hq) <;> simp -implicitDefEqProofs [*, downTo, hw, w1, w2, b1, b2, b3, reach]) | (with_reducible refine condC_dec (fun _ => ?_) (fun _ => ?_) <;> simp -implicitDefEqProofs [*, downTo, hw, w1, w2, b1, b2, b3, reach]) | (with_reducible refine condC_ndec (fun _ => ?_) (fun _ => ?_) <;> simp -implicitDefEqProofs [*, downTo, hw, w1, w2, b1, b2, b3, reach]) | (with_reducible refine condC_and (fun hq => ?_) (fun hq => ?_) <;> (try simp at hq) <;> simp -implicitDefEqProofs [*, downTo, hw, w1, w2, b1, b2, b3, reach]) | (with_reducible refine condC_or (fun hq => ?_) (fun hq => ?_) <;> (try simp at hq) <;> simp -implicitDefEqProofs [*, downTo, hw, w1, w2, b1, b2, b3, reach]) | (with_reducible refine condC_not (fun hq => ?_) (fun hq => ?_) <;> (try simp at hq) <;> simp -implicitDefEqProofs [*, downTo, hw, w1, w2, b1, b2, b3, reach]) | (with_reducible refine condC_split (fun hq => ?_) (fun hq => ?_) <;> (try simp at hq) <;> simp -implicitDefEqProofs [*, downTo, hw, w1, w2, b1, b2, b3, reach]) | (refine appK2_if (by omega) ?_; simp -implicitDefEqProofs [*, downTo, hw, w1, w2, b1, b2, b3, reach]) | (refine pureV_if (by omega) ?_; simp -implicitDefEqProofs [*, downTo, hw, w1, w2, b1, b2, b3, reach]))
    all_goals trace_state
end Go.AM
