/- What the proof of this claim stands on, part 11. -/
import Derived.Test.YtbchikkljpmocaaAmZ10
/- AM: contracts: a node is copied, takes an item. -/
namespace Go.AM
set_option linter.unusedSimpArgs false
set_option linter.unusedVariables false
set_option maxRecDepth 8000
set_option maxHeartbeats 0
theorem fit_of {α : Type} {f : α → List D} {n : Nat} (h : ∀ a, (f a).length = n ∧ (f a).all D.isCell = true) (xs : List α) : Fits n (xs.map f) := by
  intro r hr
  obtain ⟨a, _, rfl⟩ := List.mem_map.1 hr
  exact h a
theorem view_Copy (v : View) (hs : v.small) : Den PP 48 [viewD v] [] (.agg [.int .i64 v.id, .ref 0 0 v.peers.length, .ref 1 0 v.passive.length]) [⟨v.peers.map Peer.row, 2, .mut⟩, ⟨v.passive.map irow, 1, .mut⟩] := by
  obtain ⟨h1, h2⟩ := hs
  unfold cap16 at h1
  unfold cap at h2
  have c1 := clone_Peer (v.peers.map Peer.row) (fit_of (f := Peer.row) (n := 2) (fun _ => ⟨rfl, rfl⟩) _) (by simp; omega)
  have c2 := clone_int (v.passive.map irow) (fit_of (f := irow) (n := 1) (fun _ => ⟨rfl, rfl⟩) _) (by simp; omega)
  simp only [List.length_map] at c1 c2
  refine den_of [5, 8] [] is_view_Copy ?_
  simp -implicitDefEqProofs [c_view_Copy, viewD, View.cells, peersD, intsD]
  refine callThen_of c1 ?_
  simp -implicitDefEqProofs [downTo]
  refine callThen_of c2 ?_
  simp -implicitDefEqProofs [downTo]
def copyD (x : Node) : D := .agg [.bool x.up, .int .i64 x.view.id, .ref 0 0 x.view.peers.length, .ref 1 0 x.view.passive.length, .ref 2 0 x.items.length, .ref 3 0 x.log.length]
def nodeB (x : Node) : List Blk := [⟨x.view.peers.map Peer.row, 2, .mut⟩, ⟨x.view.passive.map irow, 1, .mut⟩, ⟨x.items.map Item.row, 5, .mut⟩, ⟨x.log.map Told.row, 3, .mut⟩]
theorem node_Copy (x : Node) (hs : x.small) : Den PP 87 [nodeD x] [] (copyD x) (nodeB x) := by
  have c1 := view_Copy x.view hs.1
  obtain ⟨⟨h1, h2⟩, h3, h4⟩ := hs
  unfold cap16 at h1
  unfold cap at h2
  have c2 := clone_Item (x.items.map Item.row) (fit_of (f := Item.row) (n := 5) (fun _ => ⟨rfl, rfl⟩) _) (by simp; omega)
  have c3 := clone_Told (x.log.map Told.row) (fit_of (f := Told.row) (n := 3) (fun _ => ⟨rfl, rfl⟩) _) (by simp; omega)
  simp only [List.length_map, viewD, View.cells, peersD, intsD] at c1 c2 c3
  unfold copyD nodeB
  refine den_of [5, 8, 11] [] is_node_Copy ?_
  simp -implicitDefEqProofs [c_node_Copy, nodeD, Node.cells, peersD, intsD, itemsD, toldsD]
  refine callThen_of c1 ?_
  simp -implicitDefEqProofs [downTo]
  refine callThen_of c2 ?_
  simp -implicitDefEqProofs [downTo]
  refine callThen_of c3 ?_
  simp -implicitDefEqProofs [downTo]
end Go.AM
/- AM: contracts: the document's take; a node spoiled. -/
namespace Go.AM
set_option linter.unusedSimpArgs false
set_option linter.unusedVariables false
set_option maxRecDepth 8000
set_option maxHeartbeats 0
end Go.AM
/- Plain law: a store takes items twice. -/
namespace Go.AM
set_option linter.unusedSimpArgs false
set_option linter.unusedVariables false

end Go.AM
/- AM: contracts: writing; the document's. -/
namespace Go.AM
set_option linter.unusedSimpArgs false
set_option linter.unusedVariables false
set_option maxRecDepth 8000
set_option maxHeartbeats 0
def wrI (x : Node) (i : Item) : Item := { i with count := (getR x.items i.key).1.count + 1, writer := x.view.id }
def wrMay (x : Node) (i : Item) : Bool := nodeUp x && (byte i.key && byte i.value)
def wrOk (x : Node) (i : Item) : Bool := decide ((wrI x i).count ≤ 65535) && decide ((putR x.items (wrI x i)).2 = 0)
def wrN (x : Node) (i : Item) : Node := { x with items := (putR x.items (wrI x i)).1 }
def wrE (x : Node) (i : Item) : Int := if wrMay x i then 1701 else 1700
def getW : Option Item → Item × Bool
  | some i => (i, true)
  | none => (zeroItem, false)
theorem getR_mayW {is : List Item} (h : storeMay is = true) (k : Int) : getR is k = getW (getS is k) := by
  unfold getR
  rw [if_pos h]
  cases getS is k <;> rfl
theorem getR_count {is : List Item} (h : storeMay is = true) (k : Int) : 0 ≤ (getR is k).1.count ∧ (getR is k).1.count ≤ 65535 := by
  rw [getR_mayW h]
  cases hg : getS is k with
  | none => simp [getW, zeroItem]
  | some i =>
    have hm := ((storeMay_iff is).1 h).1 i (getS_key hg).2
    simp only [itemMay, verMay, Bool.and_eq_true, decide_eq_true_eq] at hm
    simp only [getW]
    omega
theorem write_no (x : Node) (i : Item) (hs : x.small) (h : wrMay x i = false) : Den PP 61 [nodeD x, .agg i.row] [] (.tup [.agg [.bool false, .int .i64 0, .nil, .nil, .nil, .nil], .int .i64 1700]) [] := by
  have c1 := node_Up x hs
  unfold wrMay at h
  generalize nodeUp x = U at *
  have c2 := item_Byte i.key
  have c3 := item_Byte i.value
  generalize byte i.key = A at *
  generalize byte i.value = B at *
  simp only [nodeD, Node.cells, peersD, intsD, itemsD, toldsD, Item.row] at c1 c2 c3 ⊢
  refine den_of [] [] is_write_write ?_
  cases U <;> cases A <;> cases B
  all_goals
    simp at h
  all_goals
    simp -implicitDefEqProofs [c_write_write]
    repeat' (first | (refine callThen_of (by first | exact c1 | exact c2 | exact c3) ?_; simp -implicitDefEqProofs [*]) | (with_reducible refine gOps_dec (fun _ => ?_) (fun _ => ?_) <;> simp -implicitDefEqProofs [*]) | (with_reducible refine gOps_ndec (fun _ => ?_) (fun _ => ?_) <;> simp -implicitDefEqProofs [*]) | (with_reducible refine gOps_and (fun hq => ?_) (fun hq => ?_) <;> (try simp at hq) <;> simp -implicitDefEqProofs [*]) | (with_reducible refine gOps_or (fun hq => ?_) (fun hq => ?_) <;> (try simp at hq) <;> simp -implicitDefEqProofs [*]) | (with_reducible refine gOps_not (fun hq => ?_) (fun hq => ?_) <;> (try simp at hq) <;> simp -implicitDefEqProofs [*]) | (with_reducible refine gOps_split (fun hq => ?_) (fun hq => ?_) <;> (try simp at hq) <;> simp -implicitDefEqProofs [*]) | (with_reducible refine condC_dec (fun _ => ?_) (fun _ => ?_) <;> simp -implicitDefEqProofs [*]) | (with_reducible refine condC_ndec (fun _ => ?_) (fun _ => ?_) <;> simp -implicitDefEqProofs [*]) | (with_reducible refine condC_and (fun hq => ?_) (fun hq => ?_) <;> (try simp at hq) <;> simp -implicitDefEqProofs [*]) | (with_reducible refine condC_or (fun hq => ?_) (fun hq => ?_) <;> (try simp at hq) <;> simp -implicitDefEqProofs [*]) | (with_reducible refine condC_not (fun hq => ?_) (fun hq => ?_) <;> (try simp at hq) <;> simp -implicitDefEqProofs [*]) | (with_reducible refine condC_split (fun hq => ?_) (fun hq => ?_) <;> (try simp at hq) <;> simp -implicitDefEqProofs [*]) | (refine appK2_if (by omega) ?_; simp -implicitDefEqProofs [*]) | (refine pureV_if (by omega) ?_; simp -implicitDefEqProofs [*]))
theorem write_full (x : Node) (i : Item) (hs : x.small) (h : wrMay x i = true) (hf : wrOk x i = false) : Den PP 61 [nodeD x, .agg i.row] [] (.tup [.agg [.bool false, .int .i64 0, .nil, .nil, .nil, .nil], .int .i64 1701]) [] := by
  have c1 := node_Up x hs
  unfold wrMay at h
  simp only [Bool.and_eq_true] at h
  obtain ⟨h1, h2, h3⟩ := h
  have c2 := item_Byte i.key
  have c3 := item_Byte i.value
  rw [h1] at c1
  rw [h2] at c2
  rw [h3] at c3
  have hst : storeMay x.items = true := by simp only [nodeUp, nodeMay, Bool.and_eq_true] at h1; grind
  have hc := getR_count hst i.key
  have c4 := store_Get x.items i.key (by have := hs.2.1; unfold cap16; omega)
  have c5 := node_Copy x hs
  have c6 := store_Put x.items (wrI x i) (by have := hs.2.1; unfold cap16; omega)
  unfold wrOk at hf
  unfold wrI at hf c6
  generalize getR x.items i.key = r at *
  obtain ⟨⟨ik, ic, iw, iv, ig⟩, g⟩ := r
  simp only at hc hf c6
  have w1 : IntKind.wrap .i64 (ic + 1) = ic + 1 := wrap_in (by omega) (by omega)
  clear h1 h2 h3 hst hc
  generalize putR x.items { i with count := ic + 1, writer := x.view.id } = q at *
  obtain ⟨is, e⟩ := q
  simp only [nodeD, Node.cells, peersD, intsD, itemsD, toldsD, Item.row, copyD, nodeB] at c1 c2 c3 c4 c5 c6 ⊢
  refine den_of [50, 55] [] is_write_write ?_
  by_cases hq : ic + 1 ≤ 65535
  · have hq2 : ¬ 65535 < ic + 1 := by omega
    have he : ¬ e = 0 := by simpa [hq] using hf
    clear hf hq
    simp -implicitDefEqProofs [c_write_write, w1]
    repeat' (first | (refine callThen_of (by first | exact c1 | exact c2 | exact c3 | exact c4 | exact c5 | exact c6) ?_; simp -implicitDefEqProofs [*, downTo, w1, hq2, he]) | (with_reducible refine gOps_dec (fun _ => ?_) (fun _ => ?_) <;> simp -implicitDefEqProofs [*, downTo, w1, hq2, he]) | (with_reducible refine gOps_ndec (fun _ => ?_) (fun _ => ?_) <;> simp -implicitDefEqProofs [*, downTo, w1, hq2, he]) | (with_reducible refine gOps_and (fun hq => ?_) (fun hq => ?_) <;> (try simp at hq) <;> simp -implicitDefEqProofs [*, downTo, w1, hq2, he]) | (with_reducible refine gOps_or (fun hq => ?_) (fun hq => ?_) <;> (try simp at hq) <;> simp -implicitDefEqProofs [*, downTo, w1, hq2, he]) | (with_reducible refine gOps_not (fun hq => ?_) (fun hq => ?_) <;> (try simp at hq) <;> simp -implicitDefEqProofs [*, downTo, w1, hq2, he]) | (with_reducible refine gOps_split (fun hq => ?_) (fun hq => ?_) <;> (try simp at hq) <;> simp -implicitDefEqProofs [*, downTo, w1, hq2, he]) | (with_reducible refine condC_dec (fun _ => ?_) (fun _ => ?_) <;> simp -implicitDefEqProofs [*, downTo, w1, hq2, he]) | (with_reducible refine condC_ndec (fun _ => ?_) (fun _ => ?_) <;> simp -implicitDefEqProofs [*, downTo, w1, hq2, he]) | (with_reducible refine condC_and (fun hq => ?_) (fun hq => ?_) <;> (try simp at hq) <;> simp -implicitDefEqProofs [*, downTo, w1, hq2, he]) | (with_reducible refine condC_or (fun hq => ?_) (fun hq => ?_) <;> (try simp at hq) <;> simp -implicitDefEqProofs [*, downTo, w1, hq2, he]) | (with_reducible refine condC_not (fun hq => ?_) (fun hq => ?_) <;> (try simp at hq) <;> simp -implicitDefEqProofs [*, downTo, w1, hq2, he]) | (with_reducible refine condC_split (fun hq => ?_) (fun hq => ?_) <;> (try simp at hq) <;> simp -implicitDefEqProofs [*, downTo, w1, hq2, he]) | (refine appK2_if (by omega) ?_; simp -implicitDefEqProofs [*, downTo, w1, hq2, he]) | (refine pureV_if (by omega) ?_; simp -implicitDefEqProofs [*, downTo, w1, hq2, he]))
  · have hq2 : 65535 < ic + 1 := by omega
    clear hf hq
    simp -implicitDefEqProofs [c_write_write, w1]
    repeat' (first | (refine callThen_of (by first | exact c1 | exact c2 | exact c3 | exact c4 | exact c5 | exact c6) ?_; simp -implicitDefEqProofs [*, downTo, w1, hq2]) | (with_reducible refine gOps_dec (fun _ => ?_) (fun _ => ?_) <;> simp -implicitDefEqProofs [*, downTo, w1, hq2]) | (with_reducible refine gOps_ndec (fun _ => ?_) (fun _ => ?_) <;> simp -implicitDefEqProofs [*, downTo, w1, hq2]) | (with_reducible refine gOps_and (fun hq => ?_) (fun hq => ?_) <;> (try simp at hq) <;> simp -implicitDefEqProofs [*, downTo, w1, hq2]) | (with_reducible refine gOps_or (fun hq => ?_) (fun hq => ?_) <;> (try simp at hq) <;> simp -implicitDefEqProofs [*, downTo, w1, hq2]) | (with_reducible refine gOps_not (fun hq => ?_) (fun hq => ?_) <;> (try simp at hq) <;> simp -implicitDefEqProofs [*, downTo, w1, hq2]) | (with_reducible refine gOps_split (fun hq => ?_) (fun hq => ?_) <;> (try simp at hq) <;> simp -implicitDefEqProofs [*, downTo, w1, hq2]) | (with_reducible refine condC_dec (fun _ => ?_) (fun _ => ?_) <;> simp -implicitDefEqProofs [*, downTo, w1, hq2]) | (with_reducible refine condC_ndec (fun _ => ?_) (fun _ => ?_) <;> simp -implicitDefEqProofs [*, downTo, w1, hq2]) | (with_reducible refine condC_and (fun hq => ?_) (fun hq => ?_) <;> (try simp at hq) <;> simp -implicitDefEqProofs [*, downTo, w1, hq2]) | (with_reducible refine condC_or (fun hq => ?_) (fun hq => ?_) <;> (try simp at hq) <;> simp -implicitDefEqProofs [*, downTo, w1, hq2]) | (with_reducible refine condC_not (fun hq => ?_) (fun hq => ?_) <;> (try simp at hq) <;> simp -implicitDefEqProofs [*, downTo, w1, hq2]) | (with_reducible refine condC_split (fun hq => ?_) (fun hq => ?_) <;> (try simp at hq) <;> simp -implicitDefEqProofs [*, downTo, w1, hq2]) | (refine appK2_if (by omega) ?_; simp -implicitDefEqProofs [*, downTo, w1, hq2]) | (refine pureV_if (by omega) ?_; simp -implicitDefEqProofs [*, downTo, w1, hq2]))
theorem write_ok (x : Node) (i : Item) (hs : x.small) (h : wrMay x i = true) (hf : wrOk x i = true) : Den PP 61 [nodeD x, .agg i.row] [] (.tup [copyD (wrN x i), .int .i64 0]) (nodeB (wrN x i)) := by
  have c1 := node_Up x hs
  unfold wrMay at h
  simp only [Bool.and_eq_true] at h
  obtain ⟨h1, h2, h3⟩ := h
  have c2 := item_Byte i.key
  have c3 := item_Byte i.value
  rw [h1] at c1
  rw [h2] at c2
  rw [h3] at c3
  have hst : storeMay x.items = true := by simp only [nodeUp, nodeMay, Bool.and_eq_true] at h1; grind
  have hc := getR_count hst i.key
  have c4 := store_Get x.items i.key (by have := hs.2.1; unfold cap16; omega)
  have c5 := node_Copy x hs
  have c6 := store_Put x.items (wrI x i) (by have := hs.2.1; unfold cap16; omega)
  unfold wrOk at hf
  unfold wrN
  unfold wrI at hf c6 ⊢
  generalize getR x.items i.key = r at *
  obtain ⟨⟨ik, ic, iw, iv, ig⟩, g⟩ := r
  simp only at hc hf c6
  have w1 : IntKind.wrap .i64 (ic + 1) = ic + 1 := wrap_in (by omega) (by omega)
  simp only
  clear h1 h2 h3 hst hc
  generalize putR x.items { i with count := ic + 1, writer := x.view.id } = q at *
  obtain ⟨is, e⟩ := q
  simp only [Bool.and_eq_true, decide_eq_true_eq] at hf
  obtain ⟨hq, he⟩ := hf
  subst he
  have hq2 : ¬ 65535 < ic + 1 := by omega
  clear hq
  simp only [nodeD, Node.cells, peersD, intsD, itemsD, toldsD, Item.row, copyD, nodeB] at c1 c2 c3 c4 c5 c6 ⊢
  refine den_of [50, 55] [] is_write_write ?_
  simp -implicitDefEqProofs [c_write_write, w1]
  repeat' (first | (refine callThen_of (by first | exact c1 | exact c2 | exact c3 | exact c4 | exact c5 | exact c6) ?_; simp -implicitDefEqProofs [*, downTo, w1, hq2]) | (with_reducible refine gOps_dec (fun _ => ?_) (fun _ => ?_) <;> simp -implicitDefEqProofs [*, downTo, w1, hq2]) | (with_reducible refine gOps_ndec (fun _ => ?_) (fun _ => ?_) <;> simp -implicitDefEqProofs [*, downTo, w1, hq2]) | (with_reducible refine gOps_and (fun hq => ?_) (fun hq => ?_) <;> (try simp at hq) <;> simp -implicitDefEqProofs [*, downTo, w1, hq2]) | (with_reducible refine gOps_or (fun hq => ?_) (fun hq => ?_) <;> (try simp at hq) <;> simp -implicitDefEqProofs [*, downTo, w1, hq2]) | (with_reducible refine gOps_not (fun hq => ?_) (fun hq => ?_) <;> (try simp at hq) <;> simp -implicitDefEqProofs [*, downTo, w1, hq2]) | (with_reducible refine gOps_split (fun hq => ?_) (fun hq => ?_) <;> (try simp at hq) <;> simp -implicitDefEqProofs [*, downTo, w1, hq2]) | (with_reducible refine condC_dec (fun _ => ?_) (fun _ => ?_) <;> simp -implicitDefEqProofs [*, downTo, w1, hq2]) | (with_reducible refine condC_ndec (fun _ => ?_) (fun _ => ?_) <;> simp -implicitDefEqProofs [*, downTo, w1, hq2]) | (with_reducible refine condC_and (fun hq => ?_) (fun hq => ?_) <;> (try simp at hq) <;> simp -implicitDefEqProofs [*, downTo, w1, hq2]) | (with_reducible refine condC_or (fun hq => ?_) (fun hq => ?_) <;> (try simp at hq) <;> simp -implicitDefEqProofs [*, downTo, w1, hq2]) | (with_reducible refine condC_not (fun hq => ?_) (fun hq => ?_) <;> (try simp at hq) <;> simp -implicitDefEqProofs [*, downTo, w1, hq2]) | (with_reducible refine condC_split (fun hq => ?_) (fun hq => ?_) <;> (try simp at hq) <;> simp -implicitDefEqProofs [*, downTo, w1, hq2]) | (refine appK2_if (by omega) ?_; simp -implicitDefEqProofs [*, downTo, w1, hq2]) | (refine pureV_if (by omega) ?_; simp -implicitDefEqProofs [*, downTo, w1, hq2]))
end Go.AM
/- AM: chapter 17's statements: Writes. -/
namespace Go.AM
set_option linter.unusedSimpArgs false
set_option linter.unusedVariables false
set_option maxRecDepth 8000
set_option maxHeartbeats 0
def wrAll (x : Node) (i : Item) : Bool := wrMay x i && wrOk x i
def putI (k v : Int) : Item := ⟨k, 0, 0, v, false⟩
def dropI (k : Int) : Item := ⟨k, 0, 0, 0, true⟩
theorem write_bad (x : Node) (i : Item) (hs : x.small) (h : wrAll x i = false) : Den PP 61 [nodeD x, .agg i.row] [] (.tup [.agg [.bool false, .int .i64 0, .nil, .nil, .nil, .nil], .int .i64 (wrE x i)]) [] := by
  cases hm : wrMay x i with
  | false => simpa [wrE, hm] using write_no x i hs hm
  | true => simpa [wrE, hm] using write_full x i hs hm (by simpa [wrAll, hm] using h)
theorem wrAll_parts {x : Node} {i : Item} (h : wrAll x i = true) : wrMay x i = true ∧ wrOk x i = true := by
  simpa [wrAll] using h
theorem write_Put_bad (x : Node) (k v : Int) (hs : x.small) (h : wrAll x (putI k v) = false) : Den PP 30 [nodeD x, .int .i64 k, .int .i64 v] [] (.tup [.agg [.bool false, .int .i64 0, .nil, .nil, .nil, .nil], .int .i64 (wrE x (putI k v))]) [] := by
  have c1 := write_bad x (putI k v) hs h
  generalize wrE x (putI k v) = e at *
  clear h
  simp only [nodeD, Node.cells, peersD, intsD, itemsD, toldsD, Item.row, copyD, nodeB, putI, dropI] at c1 ⊢
  refine den_of [12] [] is_write_Put ?_
  simp -implicitDefEqProofs [c_write_Put]
  repeat' (first | (refine callThen_of (by first | exact c1) ?_; simp -implicitDefEqProofs [*, downTo]) | (with_reducible refine gOps_dec (fun _ => ?_) (fun _ => ?_) <;> simp -implicitDefEqProofs [*, downTo]) | (with_reducible refine gOps_ndec (fun _ => ?_) (fun _ => ?_) <;> simp -implicitDefEqProofs [*, downTo]) | (with_reducible refine gOps_and (fun hq => ?_) (fun hq => ?_) <;> (try simp at hq) <;> simp -implicitDefEqProofs [*, downTo]) | (with_reducible refine gOps_or (fun hq => ?_) (fun hq => ?_) <;> (try simp at hq) <;> simp -implicitDefEqProofs [*, downTo]) | (with_reducible refine gOps_not (fun hq => ?_) (fun hq => ?_) <;> (try simp at hq) <;> simp -implicitDefEqProofs [*, downTo]) | (with_reducible refine gOps_split (fun hq => ?_) (fun hq => ?_) <;> (try simp at hq) <;> simp -implicitDefEqProofs [*, downTo]) | (with_reducible refine condC_dec (fun _ => ?_) (fun _ => ?_) <;> simp -implicitDefEqProofs [*, downTo]) | (with_reducible refine condC_ndec (fun _ => ?_) (fun _ => ?_) <;> simp -implicitDefEqProofs [*, downTo]) | (with_reducible refine condC_and (fun hq => ?_) (fun hq => ?_) <;> (try simp at hq) <;> simp -implicitDefEqProofs [*, downTo]) | (with_reducible refine condC_or (fun hq => ?_) (fun hq => ?_) <;> (try simp at hq) <;> simp -implicitDefEqProofs [*, downTo]) | (with_reducible refine condC_not (fun hq => ?_) (fun hq => ?_) <;> (try simp at hq) <;> simp -implicitDefEqProofs [*, downTo]) | (with_reducible refine condC_split (fun hq => ?_) (fun hq => ?_) <;> (try simp at hq) <;> simp -implicitDefEqProofs [*, downTo]) | (refine appK2_if (by omega) ?_; simp -implicitDefEqProofs [*, downTo]) | (refine pureV_if (by omega) ?_; simp -implicitDefEqProofs [*, downTo]))
theorem write_Put_ok (x : Node) (k v : Int) (hs : x.small) (h : wrAll x (putI k v) = true) : Den PP 30 [nodeD x, .int .i64 k, .int .i64 v] [] (.tup [copyD (wrN x (putI k v)), .int .i64 0]) (nodeB (wrN x (putI k v))) := by
  have c1 := write_ok x (putI k v) hs (wrAll_parts h).1 (wrAll_parts h).2
  generalize wrN x (putI k v) = y at *
  clear h
  simp only [nodeD, Node.cells, peersD, intsD, itemsD, toldsD, Item.row, copyD, nodeB, putI, dropI] at c1 ⊢
  refine den_of [12] [] is_write_Put ?_
  simp -implicitDefEqProofs [c_write_Put]
  repeat' (first | (refine callThen_of (by first | exact c1) ?_; simp -implicitDefEqProofs [*, downTo]) | (with_reducible refine gOps_dec (fun _ => ?_) (fun _ => ?_) <;> simp -implicitDefEqProofs [*, downTo]) | (with_reducible refine gOps_ndec (fun _ => ?_) (fun _ => ?_) <;> simp -implicitDefEqProofs [*, downTo]) | (with_reducible refine gOps_and (fun hq => ?_) (fun hq => ?_) <;> (try simp at hq) <;> simp -implicitDefEqProofs [*, downTo]) | (with_reducible refine gOps_or (fun hq => ?_) (fun hq => ?_) <;> (try simp at hq) <;> simp -implicitDefEqProofs [*, downTo]) | (with_reducible refine gOps_not (fun hq => ?_) (fun hq => ?_) <;> (try simp at hq) <;> simp -implicitDefEqProofs [*, downTo]) | (with_reducible refine gOps_split (fun hq => ?_) (fun hq => ?_) <;> (try simp at hq) <;> simp -implicitDefEqProofs [*, downTo]) | (with_reducible refine condC_dec (fun _ => ?_) (fun _ => ?_) <;> simp -implicitDefEqProofs [*, downTo]) | (with_reducible refine condC_ndec (fun _ => ?_) (fun _ => ?_) <;> simp -implicitDefEqProofs [*, downTo]) | (with_reducible refine condC_and (fun hq => ?_) (fun hq => ?_) <;> (try simp at hq) <;> simp -implicitDefEqProofs [*, downTo]) | (with_reducible refine condC_or (fun hq => ?_) (fun hq => ?_) <;> (try simp at hq) <;> simp -implicitDefEqProofs [*, downTo]) | (with_reducible refine condC_not (fun hq => ?_) (fun hq => ?_) <;> (try simp at hq) <;> simp -implicitDefEqProofs [*, downTo]) | (with_reducible refine condC_split (fun hq => ?_) (fun hq => ?_) <;> (try simp at hq) <;> simp -implicitDefEqProofs [*, downTo]) | (refine appK2_if (by omega) ?_; simp -implicitDefEqProofs [*, downTo]) | (refine pureV_if (by omega) ?_; simp -implicitDefEqProofs [*, downTo]))
theorem write_Drop_ok (x : Node) (k : Int) (hs : x.small) (h : wrAll x (dropI k) = true) : Den PP 32 [nodeD x, .int .i64 k] [] (.tup [copyD (wrN x (dropI k)), .int .i64 0]) (nodeB (wrN x (dropI k))) := by
  have c1 := write_ok x (dropI k) hs (wrAll_parts h).1 (wrAll_parts h).2
  generalize wrN x (dropI k) = y at *
  clear h
  simp only [nodeD, Node.cells, peersD, intsD, itemsD, toldsD, Item.row, copyD, nodeB, putI, dropI] at c1 ⊢
  refine den_of [9] [] is_write_Drop ?_
  simp -implicitDefEqProofs [c_write_Drop]
  repeat' (first | (refine callThen_of (by first | exact c1) ?_; simp -implicitDefEqProofs [*, downTo]) | (with_reducible refine gOps_dec (fun _ => ?_) (fun _ => ?_) <;> simp -implicitDefEqProofs [*, downTo]) | (with_reducible refine gOps_ndec (fun _ => ?_) (fun _ => ?_) <;> simp -implicitDefEqProofs [*, downTo]) | (with_reducible refine gOps_and (fun hq => ?_) (fun hq => ?_) <;> (try simp at hq) <;> simp -implicitDefEqProofs [*, downTo]) | (with_reducible refine gOps_or (fun hq => ?_) (fun hq => ?_) <;> (try simp at hq) <;> simp -implicitDefEqProofs [*, downTo]) | (with_reducible refine gOps_not (fun hq => ?_) (fun hq => ?_) <;> (try simp at hq) <;> simp -implicitDefEqProofs [*, downTo]) | (with_reducible refine gOps_split (fun hq => ?_) (fun hq => ?_) <;> (try simp at hq) <;> simp -implicitDefEqProofs [*, downTo]) | (with_reducible refine condC_dec (fun _ => ?_) (fun _ => ?_) <;> simp -implicitDefEqProofs [*, downTo]) | (with_reducible refine condC_ndec (fun _ => ?_) (fun _ => ?_) <;> simp -implicitDefEqProofs [*, downTo]) | (with_reducible refine condC_and (fun hq => ?_) (fun hq => ?_) <;> (try simp at hq) <;> simp -implicitDefEqProofs [*, downTo]) | (with_reducible refine condC_or (fun hq => ?_) (fun hq => ?_) <;> (try simp at hq) <;> simp -implicitDefEqProofs [*, downTo]) | (with_reducible refine condC_not (fun hq => ?_) (fun hq => ?_) <;> (try simp at hq) <;> simp -implicitDefEqProofs [*, downTo]) | (with_reducible refine condC_split (fun hq => ?_) (fun hq => ?_) <;> (try simp at hq) <;> simp -implicitDefEqProofs [*, downTo]) | (refine appK2_if (by omega) ?_; simp -implicitDefEqProofs [*, downTo]) | (refine pureV_if (by omega) ?_; simp -implicitDefEqProofs [*, downTo]))
def itW (k c : Int) : Item := ⟨k, c, 1, c % 256, false⟩
def nodeW : Node := ⟨true, ⟨100, [⟨101, 2⟩, ⟨200, 0⟩, ⟨90, 1⟩], [7]⟩, [⟨95, 1, 1, 1, false⟩, ⟨99, 3, 1, 3, false⟩, ⟨250, 2, 1, 2, false⟩], []⟩
theorem small_nodeW : nodeW.small := by unfold Node.small View.small cap16 cap; decide
theorem law17_it (k c : Int) : Den PP 38 [.int .i64 k, .int .i64 c] [] (.agg (itW k c).row) [] := by
  refine den_of [] [] is_gimmallaw17_it ?_
  simp -implicitDefEqProofs [c_gimmallaw17_it, itW, Item.row]
theorem law17_node100 : Den PP 37 [] [] (.agg [.bool true, .int .i64 100, .ref 0 0 3, .ref 1 0 1, .ref 2 0 3, .nil]) [⟨nodeW.view.peers.map Peer.row, 2, .mut⟩, ⟨nodeW.view.passive.map irow, 1, .mut⟩, ⟨nodeW.items.map Item.row, 5, .mut⟩] := by
  have i1 := law17_it 95 1
  have i2 := law17_it 99 3
  have i3 := law17_it 250 2
  simp [itW, Item.row] at i1 i2 i3
  refine den_of [] [] is_gimmallaw17_node100 ?_
  simp -implicitDefEqProofs [c_gimmallaw17_node100, nodeW, Peer.row, irow, Item.row]
  repeat' (first | (refine callThen_of (by first | exact i1 | exact i2 | exact i3) ?_; simp -implicitDefEqProofs [*, nodeW, Peer.row, irow, Item.row]) | (with_reducible refine gOps_dec (fun _ => ?_) (fun _ => ?_) <;> simp -implicitDefEqProofs [*, nodeW, Peer.row, irow, Item.row]) | (with_reducible refine gOps_ndec (fun _ => ?_) (fun _ => ?_) <;> simp -implicitDefEqProofs [*, nodeW, Peer.row, irow, Item.row]) | (with_reducible refine gOps_and (fun hq => ?_) (fun hq => ?_) <;> (try simp at hq) <;> simp -implicitDefEqProofs [*, nodeW, Peer.row, irow, Item.row]) | (with_reducible refine gOps_or (fun hq => ?_) (fun hq => ?_) <;> (try simp at hq) <;> simp -implicitDefEqProofs [*, nodeW, Peer.row, irow, Item.row]) | (with_reducible refine gOps_not (fun hq => ?_) (fun hq => ?_) <;> (try simp at hq) <;> simp -implicitDefEqProofs [*, nodeW, Peer.row, irow, Item.row]) | (with_reducible refine gOps_split (fun hq => ?_) (fun hq => ?_) <;> (try simp at hq) <;> simp -implicitDefEqProofs [*, nodeW, Peer.row, irow, Item.row]) | (with_reducible refine condC_dec (fun _ => ?_) (fun _ => ?_) <;> simp -implicitDefEqProofs [*, nodeW, Peer.row, irow, Item.row]) | (with_reducible refine condC_ndec (fun _ => ?_) (fun _ => ?_) <;> simp -implicitDefEqProofs [*, nodeW, Peer.row, irow, Item.row]) | (with_reducible refine condC_and (fun hq => ?_) (fun hq => ?_) <;> (try simp at hq) <;> simp -implicitDefEqProofs [*, nodeW, Peer.row, irow, Item.row]) | (with_reducible refine condC_or (fun hq => ?_) (fun hq => ?_) <;> (try simp at hq) <;> simp -implicitDefEqProofs [*, nodeW, Peer.row, irow, Item.row]) | (with_reducible refine condC_not (fun hq => ?_) (fun hq => ?_) <;> (try simp at hq) <;> simp -implicitDefEqProofs [*, nodeW, Peer.row, irow, Item.row]) | (with_reducible refine condC_split (fun hq => ?_) (fun hq => ?_) <;> (try simp at hq) <;> simp -implicitDefEqProofs [*, nodeW, Peer.row, irow, Item.row]) | (refine appK2_if (by omega) ?_; simp -implicitDefEqProofs [*, nodeW, Peer.row, irow, Item.row]) | (refine pureV_if (by omega) ?_; simp -implicitDefEqProofs [*, nodeW, Peer.row, irow, Item.row]))
theorem law17_awake : Den PP 36 [] [] (.bool true) [] := by
  have g1 := write_Put_ok nodeW 99 7 small_nodeW (by decide +kernel)
  have g2 := write_Drop_ok nodeW 5 small_nodeW (by decide +kernel)
  have g3 := write_Put_bad ⟨false, ⟨9, [], []⟩, [], []⟩ 5 7 (by unfold Node.small View.small cap16 cap; simp) (by decide +kernel)
  have g4 := write_Put_bad nodeW 5 256 small_nodeW (by decide +kernel)
  have e1 : wrN nodeW (putI 99 7) = { nodeW with items := [itW 95 1, ⟨99, 4, 100, 7, false⟩, itW 250 2] } := by decide +kernel
  have e2 : wrN nodeW (dropI 5) = { nodeW with items := [⟨5, 1, 100, 0, true⟩, itW 95 1, itW 99 3, itW 250 2] } := by decide +kernel
  have e3 : wrE ⟨false, ⟨9, [], []⟩, [], []⟩ (putI 5 7) = 1700 := by decide +kernel
  have e4 : wrE nodeW (putI 5 256) = 1700 := by decide +kernel
  rw [e1] at g1
  rw [e2] at g2
  rw [e3] at g3
  rw [e4] at g4
  clear e1 e2 e3 e4
  simp [copyD, nodeB, nodeW, itW, zeroItem, nodeD, Node.cells, peersD, intsD, itemsD, toldsD, Peer.row, irow, Item.row] at g1 g2 g3 g4
  have g0 := law17_node100
  simp [nodeW, Peer.row, irow, Item.row] at g0
  refine den_of [] [] is_gimmallaw17_awake ?_
  simp -implicitDefEqProofs [c_gimmallaw17_awake, EQS]
  repeat' (first | (refine callThen_of (by first | exact g0 | exact g1 | exact den_nrm (g1) | exact den_nrm (by simpa using g1) | exact g2 | exact den_nrm (g2) | exact den_nrm (by simpa using g2) | exact g3 | exact den_nrm (g3) | exact den_nrm (by simpa using g3) | exact g4 | exact den_nrm (g4) | exact den_nrm (by simpa using g4) | exact law_Num _) ?_; simp -implicitDefEqProofs [*, downTo, EQS]) | (with_reducible refine gOps_dec (fun _ => ?_) (fun _ => ?_) <;> simp -implicitDefEqProofs [*, downTo, EQS]) | (with_reducible refine gOps_ndec (fun _ => ?_) (fun _ => ?_) <;> simp -implicitDefEqProofs [*, downTo, EQS]) | (with_reducible refine gOps_and (fun hq => ?_) (fun hq => ?_) <;> (try simp at hq) <;> simp -implicitDefEqProofs [*, downTo, EQS]) | (with_reducible refine gOps_or (fun hq => ?_) (fun hq => ?_) <;> (try simp at hq) <;> simp -implicitDefEqProofs [*, downTo, EQS]) | (with_reducible refine gOps_not (fun hq => ?_) (fun hq => ?_) <;> (try simp at hq) <;> simp -implicitDefEqProofs [*, downTo, EQS]) | (with_reducible refine gOps_split (fun hq => ?_) (fun hq => ?_) <;> (try simp at hq) <;> simp -implicitDefEqProofs [*, downTo, EQS]) | (with_reducible refine condC_dec (fun _ => ?_) (fun _ => ?_) <;> simp -implicitDefEqProofs [*, downTo, EQS]) | (with_reducible refine condC_ndec (fun _ => ?_) (fun _ => ?_) <;> simp -implicitDefEqProofs [*, downTo, EQS]) | (with_reducible refine condC_and (fun hq => ?_) (fun hq => ?_) <;> (try simp at hq) <;> simp -implicitDefEqProofs [*, downTo, EQS]) | (with_reducible refine condC_or (fun hq => ?_) (fun hq => ?_) <;> (try simp at hq) <;> simp -implicitDefEqProofs [*, downTo, EQS]) | (with_reducible refine condC_not (fun hq => ?_) (fun hq => ?_) <;> (try simp at hq) <;> simp -implicitDefEqProofs [*, downTo, EQS]) | (with_reducible refine condC_split (fun hq => ?_) (fun hq => ?_) <;> (try simp at hq) <;> simp -implicitDefEqProofs [*, downTo, EQS]) | (refine appK2_if (by omega) ?_; simp -implicitDefEqProofs [*, downTo, EQS]) | (refine pureV_if (by omega) ?_; simp -implicitDefEqProofs [*, downTo, EQS]))
theorem nodeUp_partsW {x : Node} (h : nodeUp x = true) : x.up = true ∧ viewMay x.view = true ∧ storeMay x.items = true ∧ x.log.length ≤ 64 ∧ x.log.any toldOdd = false := by
  simp only [nodeUp, nodeMay, Bool.and_eq_true] at h
  grind
theorem nodeUp_smallW {x : Node} (h : nodeUp x = true) : x.view.peers.length ≤ 16 ∧ x.view.passive.length ≤ 16 ∧ x.items.length ≤ 16 ∧ x.log.length ≤ 64 := by
  obtain ⟨_, p2, p3, p4, _⟩ := nodeUp_partsW h
  have h1 := (viewMay_parts p2).2.2.1
  have h2 := ((storeMay_iff _).1 p3).2.2
  omega
theorem nodeUp_small2W {x : Node} (h : nodeUp x = true) : x.small := by
  have := nodeUp_smallW h
  unfold Node.small View.small cap16 cap
  omega
end Go.AM
/- AM: chapter 17's statements: WriteNewer, WriteOther. -/
namespace Go.AM
set_option linter.unusedSimpArgs false
set_option linter.unusedVariables false
set_option maxRecDepth 8000
set_option maxHeartbeats 0
theorem wr_put {x : Node} {i : Item} (h : wrAll x i = true) : storeMay x.items = true ∧ itemMay (wrI x i) = true ∧ (wrN x i).items = putS (wrI x i) x.items ∧ storeMay (putS (wrI x i) x.items) = true := by
  obtain ⟨h1, h2⟩ := wrAll_parts h
  have hp : (putR x.items (wrI x i)).2 = 0 := by simp only [wrOk, Bool.and_eq_true, decide_eq_true_eq] at h2; exact h2.2
  obtain ⟨e1, e2, e3, e4⟩ := putR_may hp
  exact ⟨e1, e2, by unfold wrN; rw [e3], e4⟩
theorem wr_best {x : Node} {i o : Item} (hg : getS x.items i.key = some o) (h : storeMay x.items = true) : bestI o (wrI x i) = wrI x i := by
  have e : (wrI x i).count = o.count + 1 := by
    unfold wrI
    rw [getR_mayW h, hg]
    rfl
  have : better o (wrI x i) = false := by
    unfold better
    rw [e]
    have h1 : ¬ o.count + 1 < o.count := by omega
    have h2 : ¬ o.count = o.count + 1 := by omega
    simp [h1, h2]
  unfold bestI
  rw [this]
  rfl
end Go.AM
/- AM: chapter 17's statements: WriteForms, WriteRow. -/
namespace Go.AM
set_option linter.unusedSimpArgs false
set_option linter.unusedVariables false
set_option maxRecDepth 8000
set_option maxHeartbeats 0
end Go.AM
/- AM: chapter 17's statements: WriteRow. -/
namespace Go.AM
set_option linter.unusedSimpArgs false
set_option linter.unusedVariables false
set_option maxRecDepth 8000
set_option maxHeartbeats 0
theorem wr_canR {x : Node} {i : Item} (h : nodeUp x = true) (h1 : byte i.key = true) (h2 : byte i.value = true) (h3 : i.gone = true → i.value = 0) (h4 : (getR x.items i.key).1.count + 1 ≤ 65535) (h5 : x.items.length < 16) : wrAll x i = true := by
  obtain ⟨p1, p2, p3, p4, p5⟩ := nodeUp_partsW h
  have hc := getR_count p3 i.key
  have hi : itemMay (wrI x i) = true := by
    simp only [itemMay, wrI, h1, h2, verMay, viewMay_place p2, Bool.and_true, Bool.true_and, Bool.and_eq_true, decide_eq_true_eq, Bool.or_eq_true, Bool.not_eq_true']
    refine ⟨⟨decide_eq_true (by omega), decide_eq_true (by omega)⟩, ?_⟩
    cases hg : i.gone with
    | false => exact .inl rfl
    | true => exact .inr (decide_eq_true (h3 hg))
  have hp := putR_ok p3 hi (.inl h5)
  simp [wrAll, wrMay, wrOk, h, h1, h2, hp]
  exact h4
def rowN (is : List Item) : Node := { nodeW with items := is }
structure RowOk (n : Nat) (is : List Item) : Prop where
  may : storeMay is = true
  one : is = [] ∨ ∃ i, is = [i] ∧ i.key = 77
  cnt : (getR is 77).1.count = n
theorem rowN_up {n : Nat} {is : List Item} (h : RowOk n is) : nodeUp (rowN is) = true := by
  simp [nodeUp, nodeMay, rowN, nodeW, h.may]
  decide +kernel
theorem row_step {n : Nat} {is : List Item} (h : RowOk n is) (hn : n < 40) {it : Item} (hk : it.key = 77) (h2 : byte it.value = true) (h3 : it.gone = true → it.value = 0) :
    wrAll (rowN is) it = true ∧ wrN (rowN is) it = rowN [⟨77, n + 1, 100, it.value, it.gone⟩] ∧ RowOk (n + 1) [⟨77, n + 1, 100, it.value, it.gone⟩] := by
  have hlen : is.length < 16 := by rcases h.one with e | ⟨j, e, _⟩ <;> rw [e] <;> simp
  have hc := h.cnt
  have ha : wrAll (rowN is) it = true := wr_canR (rowN_up h) (by rw [hk]; decide) h2 h3 (by rw [hk]; show (getR is 77).1.count + 1 ≤ 65535; omega) hlen
  have hI : wrI (rowN is) it = ⟨77, n + 1, 100, it.value, it.gone⟩ := by
    have e0 : (getR (rowN is).items it.key).1.count = n := by rw [hk]; exact hc
    unfold wrI
    rw [e0, hk]
    rfl
  obtain ⟨e1, e2, e3, e4⟩ := wr_put ha
  have hs : putS (wrI (rowN is) it) is = [⟨77, n + 1, 100, it.value, it.gone⟩] := by
    rcases h.one with e | ⟨j, e, hj⟩
    · rw [hI, e]; rfl
    · have hg : getS (rowN is).items it.key = some j := by
        show getS is it.key = some j
        rw [e, hk, getS_cons, if_pos hj]
      have hb := wr_best hg e1
      rw [hI] at hb ⊢
      rw [e]
      simp only [putS]
      simp [hj, hb]
  have e3' : (wrN (rowN is) it).items = [⟨77, n + 1, 100, it.value, it.gone⟩] := by rw [e3]; exact hs
  have e4' : storeMay [⟨77, n + 1, 100, it.value, it.gone⟩] = true := by
    have : putS (wrI (rowN is) it) (rowN is).items = putS (wrI (rowN is) it) is := rfl
    rw [this, hs] at e4
    exact e4
  refine ⟨ha, ?_, ⟨e4', .inr ⟨_, rfl, rfl⟩, ?_⟩⟩
  · have : wrN (rowN is) it = rowN (wrN (rowN is) it).items := rfl
    rw [this, e3']
  · rw [getR_mayW e4', getS_cons]
    simp [getW]
def RowBox (is : List Item) (c : List D) : Prop := c = (rowN is).cells ∨ (is = [] ∧ c = [.bool true, .int .i64 100, .sl [[.int .i64 101, .int .i64 2], [.int .i64 200, .int .i64 0], [.int .i64 90, .int .i64 1]] 3, .sl [[.int .i64 7]] 1, .nil, .nil])
def RowInv (vals : List Int) (k : Nat) (i : Nat) (st : St) : Prop := ∃ is c, RowOk i is ∧ is.length = min i 1 ∧ RowBox is c ∧ st.bs = [⟨[c], 6, .box⟩] ∧ st.fr 0 = .sl (vals.map irow) vals.length ∧ st.fr 3 = .ptr 0 0 0 ∧ st.fr 4 = .int .i64 k ∧ st.fr 5 = .int .i64 i
theorem law17_WriteRow (vals : List Int) (hl : vals.length ≤ cap) : Den PP 14 [intsD vals] [] (.bool true) [] := by
  have g0 := law17_node100
  have i3 := law17_it 5 2
  simp [nodeW, itW, Peer.row, irow, Item.row] at g0 i3
  unfold cap at hl
  obtain ⟨k, hk⟩ : ∃ k : Nat, k = min vals.length 40 := ⟨_, rfl⟩
  have hmn : (if (40 : Int) < (vals.length : Int) then 40 else (vals.length : Int)) = (k : Int) := by rw [hk]; split <;> omega
  have hmn2 : (if (vals.length : Int) < 40 then (vals.length : Int) else 40) = (k : Int) := by rw [hk]; split <;> omega
  have hk40 : k ≤ 40 := by omega
  have hkl : k ≤ vals.length := by omega
  clear hk
  simp only [intsD]
  refine den_of [] [] is_gimmallaw17_WriteRow ?_
  simp -implicitDefEqProofs [c_gimmallaw17_WriteRow]
  refine callThen_of law17_awake ?_
  simp -implicitDefEqProofs [downTo]
  refine callThen_of g0 ?_
  simp -implicitDefEqProofs [downTo, minL, minF, hmn, hmn2]
  refine count_rule k (fun i => RowInv vals k i) (fun st => RowInv vals k k st) (fun _ => False) c_gimmallaw17_WriteRow_L0.eq_1 ?_ ?_ ?_ ?_ ?_
  · refine ⟨[], _, ⟨by decide, .inl rfl, by decide⟩, rfl, .inr ⟨rfl, rfl⟩, by simp, by simp, by simp, by simp, by simp⟩
  · rintro ⟨fr, bs⟩ ⟨is, c, hx, hln, hc, hbs, h0, h3, h4, h5⟩
    simp only at hbs h0 h3 h4 h5
    subst hbs
    simp -implicitDefEqProofs [h0, h3, h4, h5]
    exact ⟨is, c, hx, hln, hc, rfl, by simp [h0], by simp [h3], by simp [h4], by simp [h5]⟩
  · rintro i ⟨fr, bs⟩ hlt ⟨is, c, hx, hln, hc, hbs, h0, h3, h4, h5⟩
    simp only at hbs h0 h3 h4 h5
    subst hbs
    have hlk : (i : Int) < k := by omega
    have hlv : i < vals.length := by omega
    have hl2 : (i : Int) < vals.length := by omega
    obtain ⟨v, hget⟩ : ∃ v, vals[i]? = some v := ⟨vals[i], by simp [hlv]⟩
    have hgv : vals[i] = v := by simpa [hlv] using hget
    have hwr := wrap_next (n := i) (by omega)
    have hbv : byte (v % 256) = true := by simp [byte]; omega
    obtain ⟨a1, a2, a3⟩ := row_step hx (by omega) (it := putI 77 (v % 256)) rfl hbv (by simp [putI])
    obtain ⟨b1, b2, b3⟩ := row_step hx (by omega) (it := dropI 77) rfl rfl (by simp [dropI])
    have hsx := nodeUp_small2W (rowN_up hx)
    have p1 := write_Put_ok (rowN is) 77 (v % 256) hsx a1
    have p2 := write_Drop_ok (rowN is) 77 hsx b1
    rw [a2] at p1
    rw [b2] at p2
    simp only [putI, dropI] at a3 b3 p1 p2
    have q1 := ref_GetStore [⟨77, i + 1, 100, v % 256, false⟩] 77 (by unfold cap16; simp)
    have q2 := ref_GetStore [⟨77, i + 1, 100, 0, true⟩] 77 (by unfold cap16; simp)
    rw [getR_mayW a3.may, getS_cons, if_pos rfl] at q1
    rw [getR_mayW b3.may, getS_cons, if_pos rfl] at q2
    have hwr2 : IntKind.wrap .i64 ((i : Int) + 1) = i + 1 := wrap_in (by omega) (by omega)
    clear a1 a2 b1 b2 hbv hx hget hsx hln
    simp [getW, rowN, nodeW, nodeD, Node.cells, viewD, View.cells, peersD, intsD, itemsD, toldsD, Item.row, copyD, nodeB, Told.row, Peer.row, irow] at p1 p2 q1 q2
    rcases hc with rfl | ⟨rfl, rfl⟩
    all_goals
      simp -implicitDefEqProofs [h0, h3, h4, h5, hlk, hl2, hlv, hgv, irow, hwr, EQS, rowN, nodeW, Node.cells, peersD, intsD, itemsD, toldsD, Peer.row]
      repeat' (first | (refine callThen_of (by first | exact p1 | exact den_nrm (p1) | exact den_nrm (by simpa using p1) | exact p2 | exact den_nrm (p2) | exact den_nrm (by simpa using p2) | exact q1 | exact den_nrm (q1) | exact den_nrm (by simpa using q1) | exact q2 | exact den_nrm (q2) | exact den_nrm (by simpa using q2) | exact law_Num _) ?_; simp -implicitDefEqProofs [*, h0, h3, h4, h5, hlk, hl2, hlv, hgv, irow, hwr, hwr2, downTo, EQS, rowN, nodeW, Node.cells, peersD, intsD, itemsD, toldsD, Peer.row, Item.row]) | (with_reducible refine gOps_dec (fun _ => ?_) (fun _ => ?_) <;> simp -implicitDefEqProofs [*, h0, h3, h4, h5, hlk, hl2, hlv, hgv, irow, hwr, hwr2, downTo, EQS, rowN, nodeW, Node.cells, peersD, intsD, itemsD, toldsD, Peer.row, Item.row]) | (with_reducible refine gOps_ndec (fun _ => ?_) (fun _ => ?_) <;> simp -implicitDefEqProofs [*, h0, h3, h4, h5, hlk, hl2, hlv, hgv, irow, hwr, hwr2, downTo, EQS, rowN, nodeW, Node.cells, peersD, intsD, itemsD, toldsD, Peer.row, Item.row]) | (with_reducible refine gOps_and (fun hq => ?_) (fun hq => ?_) <;> (try simp at hq) <;> simp -implicitDefEqProofs [*, h0, h3, h4, h5, hlk, hl2, hlv, hgv, irow, hwr, hwr2, downTo, EQS, rowN, nodeW, Node.cells, peersD, intsD, itemsD, toldsD, Peer.row, Item.row]) | (with_reducible refine gOps_or (fun hq => ?_) (fun hq => ?_) <;> (try simp at hq) <;> simp -implicitDefEqProofs [*, h0, h3, h4, h5, hlk, hl2, hlv, hgv, irow, hwr, hwr2, downTo, EQS, rowN, nodeW, Node.cells, peersD, intsD, itemsD, toldsD, Peer.row, Item.row]) | (with_reducible refine gOps_not (fun hq => ?_) (fun hq => ?_) <;> (try simp at hq) <;> simp -implicitDefEqProofs [*, h0, h3, h4, h5, hlk, hl2, hlv, hgv, irow, hwr, hwr2, downTo, EQS, rowN, nodeW, Node.cells, peersD, intsD, itemsD, toldsD, Peer.row, Item.row]) | (with_reducible refine gOps_split (fun hq => ?_) (fun hq => ?_) <;> (try simp at hq) <;> simp -implicitDefEqProofs [*, h0, h3, h4, h5, hlk, hl2, hlv, hgv, irow, hwr, hwr2, downTo, EQS, rowN, nodeW, Node.cells, peersD, intsD, itemsD, toldsD, Peer.row, Item.row]) | (with_reducible refine condC_dec (fun _ => ?_) (fun _ => ?_) <;> simp -implicitDefEqProofs [*, h0, h3, h4, h5, hlk, hl2, hlv, hgv, irow, hwr, hwr2, downTo, EQS, rowN, nodeW, Node.cells, peersD, intsD, itemsD, toldsD, Peer.row, Item.row]) | (with_reducible refine condC_ndec (fun _ => ?_) (fun _ => ?_) <;> simp -implicitDefEqProofs [*, h0, h3, h4, h5, hlk, hl2, hlv, hgv, irow, hwr, hwr2, downTo, EQS, rowN, nodeW, Node.cells, peersD, intsD, itemsD, toldsD, Peer.row, Item.row]) | (with_reducible refine condC_and (fun hq => ?_) (fun hq => ?_) <;> (try simp at hq) <;> simp -implicitDefEqProofs [*, h0, h3, h4, h5, hlk, hl2, hlv, hgv, irow, hwr, hwr2, downTo, EQS, rowN, nodeW, Node.cells, peersD, intsD, itemsD, toldsD, Peer.row, Item.row]) | (with_reducible refine condC_or (fun hq => ?_) (fun hq => ?_) <;> (try simp at hq) <;> simp -implicitDefEqProofs [*, h0, h3, h4, h5, hlk, hl2, hlv, hgv, irow, hwr, hwr2, downTo, EQS, rowN, nodeW, Node.cells, peersD, intsD, itemsD, toldsD, Peer.row, Item.row]) | (with_reducible refine condC_not (fun hq => ?_) (fun hq => ?_) <;> (try simp at hq) <;> simp -implicitDefEqProofs [*, h0, h3, h4, h5, hlk, hl2, hlv, hgv, irow, hwr, hwr2, downTo, EQS, rowN, nodeW, Node.cells, peersD, intsD, itemsD, toldsD, Peer.row, Item.row]) | (with_reducible refine condC_split (fun hq => ?_) (fun hq => ?_) <;> (try simp at hq) <;> simp -implicitDefEqProofs [*, h0, h3, h4, h5, hlk, hl2, hlv, hgv, irow, hwr, hwr2, downTo, EQS, rowN, nodeW, Node.cells, peersD, intsD, itemsD, toldsD, Peer.row, Item.row]) | (refine appK2_if (by omega) ?_; simp -implicitDefEqProofs [*, h0, h3, h4, h5, hlk, hl2, hlv, hgv, irow, hwr, hwr2, downTo, EQS, rowN, nodeW, Node.cells, peersD, intsD, itemsD, toldsD, Peer.row, Item.row]) | (refine pureV_if (by omega) ?_; simp -implicitDefEqProofs [*, h0, h3, h4, h5, hlk, hl2, hlv, hgv, irow, hwr, hwr2, downTo, EQS, rowN, nodeW, Node.cells, peersD, intsD, itemsD, toldsD, Peer.row, Item.row]))
    · refine ⟨_, _, b3, by simp, .inl rfl, ?_, ?_, ?_, ?_, ?_⟩
      all_goals simp -implicitDefEqProofs [rowN, nodeW, Node.cells, peersD, intsD, itemsD, toldsD, Peer.row, irow, Item.row, h0, h3, h4, h5]
    · refine ⟨_, _, a3, by simp, .inl rfl, ?_, ?_, ?_, ?_, ?_⟩
      all_goals simp -implicitDefEqProofs [rowN, nodeW, Node.cells, peersD, intsD, itemsD, toldsD, Peer.row, irow, Item.row, h0, h3, h4, h5]
    · refine ⟨_, _, b3, by simp, .inl rfl, ?_, ?_, ?_, ?_, ?_⟩
      all_goals simp -implicitDefEqProofs [rowN, nodeW, Node.cells, peersD, intsD, itemsD, toldsD, Peer.row, irow, Item.row, h0, h3, h4, h5]
    · refine ⟨_, _, a3, by simp, .inl rfl, ?_, ?_, ?_, ?_, ?_⟩
      all_goals simp -implicitDefEqProofs [rowN, nodeW, Node.cells, peersD, intsD, itemsD, toldsD, Peer.row, irow, Item.row, h0, h3, h4, h5]
  · rintro ⟨fr, bs⟩ ⟨is, c, hx, hln, hc, hbs, h0, h3, h4, h5⟩
    simp only at hbs h0 h3 h4 h5
    subst hbs
    have hmk : (if (1 : Int) < (k : Int) then 1 else (k : Int)) = ((min k 1 : Nat) : Int) := by split <;> omega
    have hmk2 : (if (k : Int) < 1 then (k : Int) else 1) = ((min k 1 : Nat) : Int) := by split <;> omega
    rcases hc with rfl | ⟨rfl, rfl⟩
    · simp -implicitDefEqProofs [h0, h3, h4, h5, minL, minF, hmk, hmk2, rowN, Node.cells, itemsD, hln]
      repeat' (first | (refine callThen_of (by first | exact i3) ?_; simp -implicitDefEqProofs [*]) | (with_reducible refine gOps_dec (fun _ => ?_) (fun _ => ?_) <;> simp -implicitDefEqProofs [*]) | (with_reducible refine gOps_ndec (fun _ => ?_) (fun _ => ?_) <;> simp -implicitDefEqProofs [*]) | (with_reducible refine gOps_and (fun hq => ?_) (fun hq => ?_) <;> (try simp at hq) <;> simp -implicitDefEqProofs [*]) | (with_reducible refine gOps_or (fun hq => ?_) (fun hq => ?_) <;> (try simp at hq) <;> simp -implicitDefEqProofs [*]) | (with_reducible refine gOps_not (fun hq => ?_) (fun hq => ?_) <;> (try simp at hq) <;> simp -implicitDefEqProofs [*]) | (with_reducible refine gOps_split (fun hq => ?_) (fun hq => ?_) <;> (try simp at hq) <;> simp -implicitDefEqProofs [*]) | (with_reducible refine condC_dec (fun _ => ?_) (fun _ => ?_) <;> simp -implicitDefEqProofs [*]) | (with_reducible refine condC_ndec (fun _ => ?_) (fun _ => ?_) <;> simp -implicitDefEqProofs [*]) | (with_reducible refine condC_and (fun hq => ?_) (fun hq => ?_) <;> (try simp at hq) <;> simp -implicitDefEqProofs [*]) | (with_reducible refine condC_or (fun hq => ?_) (fun hq => ?_) <;> (try simp at hq) <;> simp -implicitDefEqProofs [*]) | (with_reducible refine condC_not (fun hq => ?_) (fun hq => ?_) <;> (try simp at hq) <;> simp -implicitDefEqProofs [*]) | (with_reducible refine condC_split (fun hq => ?_) (fun hq => ?_) <;> (try simp at hq) <;> simp -implicitDefEqProofs [*]) | (refine appK2_if (by omega) ?_; simp -implicitDefEqProofs [*]) | (refine pureV_if (by omega) ?_; simp -implicitDefEqProofs [*]))
    · have hk0 : k = 0 := by simp at hln; omega
      subst hk0
      clear hln hmk hmk2
      simp -implicitDefEqProofs [h0, h3, h4, h5, minL, minF]
      repeat' (first | (refine callThen_of (by first | exact i3) ?_; simp -implicitDefEqProofs [*]) | (with_reducible refine gOps_dec (fun _ => ?_) (fun _ => ?_) <;> simp -implicitDefEqProofs [*]) | (with_reducible refine gOps_ndec (fun _ => ?_) (fun _ => ?_) <;> simp -implicitDefEqProofs [*]) | (with_reducible refine gOps_and (fun hq => ?_) (fun hq => ?_) <;> (try simp at hq) <;> simp -implicitDefEqProofs [*]) | (with_reducible refine gOps_or (fun hq => ?_) (fun hq => ?_) <;> (try simp at hq) <;> simp -implicitDefEqProofs [*]) | (with_reducible refine gOps_not (fun hq => ?_) (fun hq => ?_) <;> (try simp at hq) <;> simp -implicitDefEqProofs [*]) | (with_reducible refine gOps_split (fun hq => ?_) (fun hq => ?_) <;> (try simp at hq) <;> simp -implicitDefEqProofs [*]) | (with_reducible refine condC_dec (fun _ => ?_) (fun _ => ?_) <;> simp -implicitDefEqProofs [*]) | (with_reducible refine condC_ndec (fun _ => ?_) (fun _ => ?_) <;> simp -implicitDefEqProofs [*]) | (with_reducible refine condC_and (fun hq => ?_) (fun hq => ?_) <;> (try simp at hq) <;> simp -implicitDefEqProofs [*]) | (with_reducible refine condC_or (fun hq => ?_) (fun hq => ?_) <;> (try simp at hq) <;> simp -implicitDefEqProofs [*]) | (with_reducible refine condC_not (fun hq => ?_) (fun hq => ?_) <;> (try simp at hq) <;> simp -implicitDefEqProofs [*]) | (with_reducible refine condC_split (fun hq => ?_) (fun hq => ?_) <;> (try simp at hq) <;> simp -implicitDefEqProofs [*]) | (refine appK2_if (by omega) ?_; simp -implicitDefEqProofs [*]) | (refine pureV_if (by omega) ?_; simp -implicitDefEqProofs [*]))
  · rintro ⟨fr, bs⟩ h
    exact h.elim
end Go.AM
