/- What the proof of this claim stands on, part 11. -/
import Derived.Test.YtailjedmlkdcmaaAmZ10
/- AM: what is handed in, told. -/
namespace Go.AM
set_option linter.unusedSimpArgs false
set_option linter.unusedVariables false
set_option maxRecDepth 8000
theorem tell_int {n : Nat} {cs : List D} (h : Tell TT (n + 1) 3 cs) : ∃ x, cs = [.int .i64 x] ∧ in64 x := by
  simp [Tell] at h
  obtain ⟨x, rfl, hx⟩ := h
  exact ⟨x, rfl, wf64 hx⟩
theorem tell_bool {n : Nat} {cs : List D} (h : Tell TT (n + 1) 4 cs) : ∃ x, cs = [.bool x] := by
  simpa [Tell] using h
theorem tell_ints {n : Nat} {cs : List D} (h : Tell TT (n + 2) 23 cs) : ∃ xs : List Int, cs = [intsD xs] ∧ xs.length * 8 ≤ 140737488351232 ∧ ∀ x ∈ xs, in64 x := by
  unfold Tell at h
  simp at h
  obtain ⟨rows, rfl, hl, hr⟩ := h
  obtain ⟨xs, rfl, hx⟩ := rows_of (f := irow) (Q := in64) rows fun r h => by
    obtain ⟨x, rfl, hx⟩ := tell_int (hr r h)
    exact ⟨x, rfl, hx⟩
  exact ⟨xs, by simp [intsD], by simpa using hl, hx⟩
theorem tell_Peer {n : Nat} {cs : List D} (h : Tell TT (n + 2) 102 cs) : ∃ p : Peer, cs = p.row ∧ in64 p.id ∧ in64 p.missed := by
  unfold Tell at h
  simp [Tell.TellFs] at h
  obtain ⟨a, b, rfl, h1, h2⟩ := h
  obtain ⟨x, rfl, hx⟩ := tell_int h1
  obtain ⟨y, rfl, hy⟩ := tell_int h2
  exact ⟨⟨x, y⟩, rfl, hx, hy⟩
theorem tell_peers {n : Nat} {cs : List D} (h : Tell TT (n + 3) 22 cs) : ∃ ps : List Peer, cs = [peersD ps] ∧ ps.length * 16 ≤ 140737488351232 ∧ ∀ p ∈ ps, in64 p.id ∧ in64 p.missed := by
  unfold Tell at h
  simp at h
  obtain ⟨rows, rfl, hl, hr⟩ := h
  obtain ⟨xs, rfl, hx⟩ := rows_of (f := Peer.row) (Q := fun p => in64 p.id ∧ in64 p.missed) rows fun r h => tell_Peer (hr r h)
  exact ⟨xs, by simp [peersD], by simpa using hl, hx⟩
def View.tame (v : View) : Prop := v.peers.length * 16 ≤ 140737488351232 ∧ v.passive.length * 8 ≤ 140737488351232 ∧ in64 v.id ∧ (∀ p ∈ v.peers, in64 p.id ∧ in64 p.missed) ∧ ∀ x ∈ v.passive, in64 x
theorem View.tame.small {v : View} (h : v.tame) : v.small := by
  obtain ⟨h1, h2, _⟩ := h
  unfold View.small cap16 cap
  omega
theorem tell_View {n : Nat} {cs : List D} (h : Tell TT (n + 4) 25 cs) : ∃ v : View, cs = v.cells ∧ v.tame := by
  unfold Tell at h
  simp [Tell.TellFs] at h
  obtain ⟨a, r, rfl, h1, b, c, rfl, h2, h3⟩ := h
  obtain ⟨x, rfl, hx⟩ := tell_int h1
  obtain ⟨ps, rfl, hp, hp2⟩ := tell_peers h2
  obtain ⟨xs, rfl, hq, hq2⟩ := tell_ints h3
  exact ⟨⟨x, ps, xs⟩, rfl, hp, hq, hx, hp2, hq2⟩
theorem tell_Version {n : Nat} {cs : List D} (h : Tell TT (n + 2) 31 cs) : ∃ c w : Int, cs = [.int .i64 c, .int .i64 w] ∧ in64 c ∧ in64 w := by
  unfold Tell at h
  simp [Tell.TellFs] at h
  obtain ⟨a, b, rfl, h1, h2⟩ := h
  obtain ⟨x, rfl, hx⟩ := tell_int h1
  obtain ⟨y, rfl, hy⟩ := tell_int h2
  exact ⟨x, y, rfl, hx, hy⟩
def Item.tame (i : Item) : Prop := in64 i.key ∧ in64 i.count ∧ in64 i.writer ∧ in64 i.value
theorem tell_Item {n : Nat} {cs : List D} (h : Tell TT (n + 3) 33 cs) : ∃ i : Item, cs = i.row ∧ i.tame := by
  unfold Tell at h
  simp [Tell.TellFs] at h
  obtain ⟨a, r1, rfl, h1, b, r2, rfl, h2, c, d, rfl, h3, h4⟩ := h
  obtain ⟨x, rfl, hx⟩ := tell_int h1
  obtain ⟨y, z, rfl, hy, hz⟩ := tell_Version h2
  obtain ⟨u, rfl, hu⟩ := tell_int h3
  obtain ⟨g, rfl⟩ := tell_bool h4
  exact ⟨⟨x, y, z, u, g⟩, rfl, hx, hy, hz, hu⟩
theorem tell_items {n : Nat} {cs : List D} (h : Tell TT (n + 4) 26 cs) : ∃ is : List Item, cs = [itemsD is] ∧ is.length * 40 ≤ 140737488351232 ∧ ∀ i ∈ is, i.tame := by
  unfold Tell at h
  simp at h
  obtain ⟨rows, rfl, hl, hr⟩ := h
  obtain ⟨xs, rfl, hx⟩ := rows_of (f := Item.row) (Q := Item.tame) rows fun r h => tell_Item (hr r h)
  exact ⟨xs, by simp [itemsD], by simpa using hl, hx⟩
theorem tell_Told {n : Nat} {cs : List D} (h : Tell TT (n + 2) 66 cs) : ∃ t : Told, cs = t.row ∧ in64 t.key ∧ in64 t.value := by
  unfold Tell at h
  simp [Tell.TellFs] at h
  obtain ⟨a, r1, rfl, h1, b, c, rfl, h2, h3⟩ := h
  obtain ⟨x, rfl, hx⟩ := tell_int h1
  obtain ⟨g, rfl⟩ := tell_bool h2
  obtain ⟨u, rfl, hu⟩ := tell_int h3
  exact ⟨⟨x, g, u⟩, rfl, hx, hu⟩
theorem tell_tolds {n : Nat} {cs : List D} (h : Tell TT (n + 3) 27 cs) : ∃ ts : List Told, cs = [toldsD ts] ∧ ts.length * 24 ≤ 140737488351232 ∧ ∀ t ∈ ts, in64 t.key ∧ in64 t.value := by
  unfold Tell at h
  simp at h
  obtain ⟨rows, rfl, hl, hr⟩ := h
  obtain ⟨xs, rfl, hx⟩ := rows_of (f := Told.row) (Q := fun t => in64 t.key ∧ in64 t.value) rows fun r h => tell_Told (hr r h)
  exact ⟨xs, by simp [toldsD], by simpa using hl, hx⟩
def Node.tame (x : Node) : Prop := x.view.tame ∧ x.items.length * 40 ≤ 140737488351232 ∧ (∀ i ∈ x.items, i.tame) ∧ x.log.length * 24 ≤ 140737488351232 ∧ ∀ t ∈ x.log, in64 t.key ∧ in64 t.value
theorem Node.tame.small {x : Node} (h : x.tame) : x.small := ⟨h.1.small, h.2.1, h.2.2.2.1⟩
theorem tell_Node {n : Nat} {cs : List D} (h : Tell TT (n + 5) 29 cs) : ∃ x : Node, cs = x.cells ∧ x.tame := by
  unfold Tell at h
  simp [Tell.TellFs] at h
  obtain ⟨a, r1, rfl, h1, b, r2, rfl, h2, c, d, rfl, h3, h4⟩ := h
  obtain ⟨u, rfl⟩ := tell_bool h1
  obtain ⟨v, rfl, hv⟩ := tell_View h2
  obtain ⟨is, rfl, h5, h6⟩ := tell_items h3
  obtain ⟨ts, rfl, h7, h8⟩ := tell_tolds h4
  exact ⟨⟨u, v, is, ts⟩, rfl, hv, h5, h6, h7, h8⟩
theorem arg_Node {n : Nat} {d : D} (h : TellArg TT (n + 5) 29 d) : ∃ x : Node, d = nodeD x ∧ x.tame := by
  simp [TellArg] at h
  obtain ⟨cs, rfl, h⟩ := h
  obtain ⟨v, rfl, hv⟩ := tell_Node h
  exact ⟨v, rfl, hv⟩
theorem arg_Item {n : Nat} {d : D} (h : TellArg TT (n + 3) 33 d) : ∃ x : Item, d = .agg x.row ∧ x.tame := by
  simp [TellArg] at h
  obtain ⟨cs, rfl, h⟩ := h
  obtain ⟨v, rfl, hv⟩ := tell_Item h
  exact ⟨v, rfl, hv⟩
theorem arg_items {n : Nat} {d : D} (h : TellArg TT (n + 4) 26 d) : ∃ x : List Item, d = itemsD x ∧ x.length * 40 ≤ 140737488351232 ∧ ∀ i ∈ x, i.tame := by
  simp [TellArg] at h
  obtain ⟨xs, hx, h2⟩ := tell_items h
  simp at hx
  exact ⟨xs, hx, h2⟩
theorem arg_ints {n : Nat} {d : D} (h : TellArg TT (n + 2) 23 d) : ∃ x : List Int, d = intsD x ∧ x.length * 8 ≤ 140737488351232 ∧ ∀ i ∈ x, in64 i := by
  simp [TellArg] at h
  obtain ⟨xs, hx, h2⟩ := tell_ints h
  simp at hx
  exact ⟨xs, hx, h2⟩
theorem arg_peers {n : Nat} {d : D} (h : TellArg TT (n + 3) 22 d) : ∃ x : List Peer, d = peersD x ∧ x.length * 16 ≤ 140737488351232 ∧ ∀ p ∈ x, in64 p.id ∧ in64 p.missed := by
  simp [TellArg] at h
  obtain ⟨xs, hx, h2⟩ := tell_peers h
  simp at hx
  exact ⟨xs, hx, h2⟩
theorem arg_bool {n : Nat} {d : D} (h : TellArg TT (n + 1) 4 d) : ∃ x, d = .bool x ∧ True := by
  simp [TellArg] at h
  obtain ⟨x, hx⟩ := tell_bool h
  simp at hx
  exact ⟨x, hx, trivial⟩
theorem arg_int {n : Nat} {d : D} (h : TellArg TT (n + 1) 3 d) : ∃ x, d = .int .i64 x ∧ in64 x := by
  simp [TellArg] at h
  obtain ⟨x, hx, h2⟩ := tell_int h
  simp at hx
  exact ⟨x, hx, h2⟩
theorem arg_View {n : Nat} {d : D} (h : TellArg TT (n + 4) 25 d) : ∃ v : View, d = viewD v ∧ v.tame := by
  simp [TellArg] at h
  obtain ⟨cs, rfl, h⟩ := h
  obtain ⟨v, rfl, hv⟩ := tell_View h
  exact ⟨v, rfl, hv⟩
end Go.AM
/- Plain law: stores: put twice, in another row. -/
namespace Go.AM
set_option linter.unusedSimpArgs false
set_option linter.unusedVariables false

end Go.AM
namespace Go.AM
end Go.AM
/- AM: contracts: a node is copied, takes an item. -/
namespace Go.AM
set_option linter.unusedSimpArgs false
set_option linter.unusedVariables false
set_option maxRecDepth 8000
set_option maxHeartbeats 0
theorem fit_of {α : Type} {f : α → List D} {n : Nat} (h : ∀ a, (f a).length = n ∧ (f a).all D.isCell = true) (xs : List α) : Fits n (xs.map f) := by
  intro r hr
  obtain ⟨a, _, rfl⟩ := List.mem_map.1 hr
  exact h a
theorem view_Copy (v : View) (hs : v.small) : Den PP 82 [viewD v] [] (.agg [.int .i64 v.id, .ref 0 0 v.peers.length, .ref 1 0 v.passive.length]) [⟨v.peers.map Peer.row, 2, .mut⟩, ⟨v.passive.map irow, 1, .mut⟩] := by
  obtain ⟨h1, h2⟩ := hs
  unfold cap16 at h1
  unfold cap at h2
  have c1 := clone_Peer (v.peers.map Peer.row) (fit_of (f := Peer.row) (n := 2) (fun _ => ⟨rfl, rfl⟩) _) (by simp; omega)
  have c2 := clone_int (v.passive.map irow) (fit_of (f := irow) (n := 1) (fun _ => ⟨rfl, rfl⟩) _) (by simp; omega)
  simp only [List.length_map] at c1 c2
  refine den_of [5, 8] [] is_view_Copy ?_
  simp -implicitDefEqProofs [c_view_Copy, viewD, View.cells, peersD, intsD]
  refine callThen_of c1 ?_
  simp -implicitDefEqProofs [downTo]
  refine callThen_of c2 ?_
  simp -implicitDefEqProofs [downTo]
def copyD (x : Node) : D := .agg [.bool x.up, .int .i64 x.view.id, .ref 0 0 x.view.peers.length, .ref 1 0 x.view.passive.length, .ref 2 0 x.items.length, .ref 3 0 x.log.length]
def nodeB (x : Node) : List Blk := [⟨x.view.peers.map Peer.row, 2, .mut⟩, ⟨x.view.passive.map irow, 1, .mut⟩, ⟨x.items.map Item.row, 5, .mut⟩, ⟨x.log.map Told.row, 3, .mut⟩]
theorem node_Copy (x : Node) (hs : x.small) : Den PP 51 [nodeD x] [] (copyD x) (nodeB x) := by
  have c1 := view_Copy x.view hs.1
  obtain ⟨⟨h1, h2⟩, h3, h4⟩ := hs
  unfold cap16 at h1
  unfold cap at h2
  have c2 := clone_Item (x.items.map Item.row) (fit_of (f := Item.row) (n := 5) (fun _ => ⟨rfl, rfl⟩) _) (by simp; omega)
  have c3 := clone_Told (x.log.map Told.row) (fit_of (f := Told.row) (n := 3) (fun _ => ⟨rfl, rfl⟩) _) (by simp; omega)
  simp only [List.length_map, viewD, View.cells, peersD, intsD] at c1 c2 c3
  unfold copyD nodeB
  refine den_of [5, 8, 11] [] is_node_Copy ?_
  simp -implicitDefEqProofs [c_node_Copy, nodeD, Node.cells, peersD, intsD, itemsD, toldsD]
  refine callThen_of c1 ?_
  simp -implicitDefEqProofs [downTo]
  refine callThen_of c2 ?_
  simp -implicitDefEqProofs [downTo]
  refine callThen_of c3 ?_
  simp -implicitDefEqProofs [downTo]
end Go.AM
/- AM: contracts: the document's take; a node spoiled. -/
namespace Go.AM
set_option linter.unusedSimpArgs false
set_option linter.unusedVariables false
set_option maxRecDepth 8000
set_option maxHeartbeats 0
end Go.AM
/- AM: chapter 20's statements: Takes. -/
namespace Go.AM
set_option linter.unusedSimpArgs false
set_option linter.unusedVariables false
set_option maxRecDepth 8000
set_option maxHeartbeats 0
def itT (k c : Int) : Item := ⟨k, c, 1, c % 256, false⟩
def nodeT : Node := ⟨true, ⟨100, [⟨101, 2⟩, ⟨200, 0⟩, ⟨90, 1⟩], [7]⟩, [⟨95, 1, 1, 1, false⟩, ⟨99, 3, 1, 3, false⟩, ⟨250, 2, 1, 2, false⟩], []⟩
theorem small_nodeT : nodeT.small := by unfold Node.small View.small cap16 cap; decide
theorem nodeUp_parts {x : Node} (h : nodeUp x = true) : x.up = true ∧ viewMay x.view = true ∧ storeMay x.items = true ∧ x.log.length ≤ 64 ∧ x.log.any toldOdd = false := by
  simp only [nodeUp, nodeMay, Bool.and_eq_true, decide_eq_true_eq, Bool.not_eq_true'] at h
  exact ⟨h.1, h.2.1.1.1.2, h.2.1.1.2, h.2.1.2, h.2.2⟩
end Go.AM
/- AM: contracts: what a node was told is noted. -/
namespace Go.AM
set_option linter.unusedSimpArgs false
set_option linter.unusedVariables false
set_option maxRecDepth 8000
set_option maxHeartbeats 0
def toldOf (key : Int) (i : Item) (has : Bool) : Told := ⟨key, has && !i.gone, if has && !i.gone then i.value else 0⟩
theorem ask_note (x : Node) (key : Int) (i : Item) (has : Bool) (hs : x.small) (hl : x.log.length ≤ 64) : Den PP 50 [nodeD x, .int .i64 key, .agg i.row, .bool has] [] (.agg [.bool x.up, .int .i64 x.view.id, .ref 0 0 x.view.peers.length, .ref 1 0 x.view.passive.length, .ref 2 0 x.items.length, .ref 3 (x.log.length + 1 - 64) (x.log.length + 1 - (x.log.length + 1 - 64))])
    [⟨x.view.peers.map Peer.row, 2, .mut⟩, ⟨x.view.passive.map irow, 1, .mut⟩, ⟨x.items.map Item.row, 5, .mut⟩, ⟨(x.log ++ [toldOf key i has]).map Told.row, 3, .mut⟩] := by
  have c1 := node_Copy x hs
  obtain ⟨ik, ic, iw, iv, ig⟩ := i
  simp only [nodeD, Node.cells, peersD, intsD, itemsD, toldsD, Item.row, copyD, nodeB] at c1 ⊢
  have hm : (if IntKind.wrap .i64 ((x.log.length : Int) + 1 - 64) < 0 then 0 else IntKind.wrap .i64 ((x.log.length : Int) + 1 - 64)) = ((x.log.length + 1 - 64 : Nat) : Int) := by
    rw [wrap_in (by omega) (by omega)]; split <;> omega
  refine den_of [12] [] is_ask_note ?_
  cases has <;> cases ig
  all_goals
    simp -implicitDefEqProofs [c_ask_note]
    refine callThen_of c1 ?_
    simp -implicitDefEqProofs [downTo]
  case false.false | false.true | true.true =>
    refine ⟨by simp [Fits], ?_⟩
    repeat' (first | (refine callThen_of (by first | exact ring_Place _ | exact den_nrm (ring_Place _) | exact den_nrm (by simpa using ring_Place _)) ?_; simp -implicitDefEqProofs [*, downTo]) | (with_reducible refine gOps_dec (fun _ => ?_) (fun _ => ?_) <;> simp -implicitDefEqProofs [*, downTo]) | (with_reducible refine gOps_ndec (fun _ => ?_) (fun _ => ?_) <;> simp -implicitDefEqProofs [*, downTo]) | (with_reducible refine gOps_and (fun hq => ?_) (fun hq => ?_) <;> (try simp at hq) <;> simp -implicitDefEqProofs [*, downTo]) | (with_reducible refine gOps_or (fun hq => ?_) (fun hq => ?_) <;> (try simp at hq) <;> simp -implicitDefEqProofs [*, downTo]) | (with_reducible refine gOps_not (fun hq => ?_) (fun hq => ?_) <;> (try simp at hq) <;> simp -implicitDefEqProofs [*, downTo]) | (with_reducible refine gOps_split (fun hq => ?_) (fun hq => ?_) <;> (try simp at hq) <;> simp -implicitDefEqProofs [*, downTo]) | (with_reducible refine condC_dec (fun _ => ?_) (fun _ => ?_) <;> simp -implicitDefEqProofs [*, downTo]) | (with_reducible refine condC_ndec (fun _ => ?_) (fun _ => ?_) <;> simp -implicitDefEqProofs [*, downTo]) | (with_reducible refine condC_and (fun hq => ?_) (fun hq => ?_) <;> (try simp at hq) <;> simp -implicitDefEqProofs [*, downTo]) | (with_reducible refine condC_or (fun hq => ?_) (fun hq => ?_) <;> (try simp at hq) <;> simp -implicitDefEqProofs [*, downTo]) | (with_reducible refine condC_not (fun hq => ?_) (fun hq => ?_) <;> (try simp at hq) <;> simp -implicitDefEqProofs [*, downTo]) | (with_reducible refine condC_split (fun hq => ?_) (fun hq => ?_) <;> (try simp at hq) <;> simp -implicitDefEqProofs [*, downTo]) | (refine appK2_if (by omega) ?_; simp -implicitDefEqProofs [*, downTo]) | (refine pureV_if (by omega) ?_; simp -implicitDefEqProofs [*, downTo]))
    simp -implicitDefEqProofs [minL, minF, hm]
    refine outK_slice (x.log.length + 1 - 64) (x.log.length + 1) (by simp; rfl) rfl (by simp [boundD, hm]) (by first | rfl | omega | (simp [boundD]; done) | (simp [boundD]; omega) | (simp; done) | (simp; omega) | (simp [*]; done) | (simp [*]; omega)) (by omega) (by first | rfl | omega | (simp [boundD]; done) | (simp [boundD]; omega) | (simp; done) | (simp; omega) | (simp [*]; done) | (simp [*]; omega)) rfl (by first | rfl | omega | (simp [boundD]; done) | (simp [boundD]; omega) | (simp; done) | (simp; omega) | (simp [*]; done) | (simp [*]; omega)) ?_
    simp -implicitDefEqProofs [toldOf, Told.row]
  case true.false =>
    repeat' apply And.intro
    all_goals try (simp [Fits]; done)
    all_goals
      repeat' (first | (refine callThen_of (by first | exact ring_Place _ | exact den_nrm (ring_Place _) | exact den_nrm (by simpa using ring_Place _)) ?_; simp -implicitDefEqProofs [*, downTo]) | (with_reducible refine gOps_dec (fun _ => ?_) (fun _ => ?_) <;> simp -implicitDefEqProofs [*, downTo]) | (with_reducible refine gOps_ndec (fun _ => ?_) (fun _ => ?_) <;> simp -implicitDefEqProofs [*, downTo]) | (with_reducible refine gOps_and (fun hq => ?_) (fun hq => ?_) <;> (try simp at hq) <;> simp -implicitDefEqProofs [*, downTo]) | (with_reducible refine gOps_or (fun hq => ?_) (fun hq => ?_) <;> (try simp at hq) <;> simp -implicitDefEqProofs [*, downTo]) | (with_reducible refine gOps_not (fun hq => ?_) (fun hq => ?_) <;> (try simp at hq) <;> simp -implicitDefEqProofs [*, downTo]) | (with_reducible refine gOps_split (fun hq => ?_) (fun hq => ?_) <;> (try simp at hq) <;> simp -implicitDefEqProofs [*, downTo]) | (with_reducible refine condC_dec (fun _ => ?_) (fun _ => ?_) <;> simp -implicitDefEqProofs [*, downTo]) | (with_reducible refine condC_ndec (fun _ => ?_) (fun _ => ?_) <;> simp -implicitDefEqProofs [*, downTo]) | (with_reducible refine condC_and (fun hq => ?_) (fun hq => ?_) <;> (try simp at hq) <;> simp -implicitDefEqProofs [*, downTo]) | (with_reducible refine condC_or (fun hq => ?_) (fun hq => ?_) <;> (try simp at hq) <;> simp -implicitDefEqProofs [*, downTo]) | (with_reducible refine condC_not (fun hq => ?_) (fun hq => ?_) <;> (try simp at hq) <;> simp -implicitDefEqProofs [*, downTo]) | (with_reducible refine condC_split (fun hq => ?_) (fun hq => ?_) <;> (try simp at hq) <;> simp -implicitDefEqProofs [*, downTo]) | (refine appK2_if (by omega) ?_; simp -implicitDefEqProofs [*, downTo]) | (refine pureV_if (by omega) ?_; simp -implicitDefEqProofs [*, downTo]))
      simp -implicitDefEqProofs [minL, minF, hm]
      refine outK_slice (x.log.length + 1 - 64) (x.log.length + 1) (by simp; rfl) rfl (by simp [boundD, hm]) (by first | rfl | omega | (simp [boundD]; done) | (simp [boundD]; omega) | (simp; done) | (simp; omega) | (simp [*]; done) | (simp [*]; omega)) (by omega) (by first | rfl | omega | (simp [boundD]; done) | (simp [boundD]; omega) | (simp; done) | (simp; omega) | (simp [*]; done) | (simp [*]; omega)) rfl (by first | rfl | omega | (simp [boundD]; done) | (simp [boundD]; omega) | (simp; done) | (simp; omega) | (simp [*]; done) | (simp [*]; omega)) ?_
      simp -implicitDefEqProofs [toldOf, Told.row]
end Go.AM
/- AM: contracts: messages that may be. -/
namespace Go.AM
set_option linter.unusedSimpArgs false
set_option linter.unusedVariables false
set_option maxRecDepth 8000
set_option maxHeartbeats 0
def noneM (ids : List Int) (key : Int) (i : Item) (has : Bool) : Bool := decide (ids.length = 0) && decide (key = 0) && decide (i = zeroItem) && !has
theorem msg_none_raw (kind f t key ik ic iw iv : Int) (ig has : Bool) (ids : List Int) : Den PP 111 [.agg [.int .i64 kind, .int .i64 f, .int .i64 t, .sl (ids.map irow) ids.length, .int .i64 key, .int .i64 ik, .int .i64 ic, .int .i64 iw, .int .i64 iv, .bool ig, .bool has]] [] (.bool (noneM ids key ⟨ik, ic, iw, iv, ig⟩ has)) [] := by
  refine den_of [] [] is_msg_none ?_
  simp -implicitDefEqProofs [c_msg_none, EQS]
  repeat' (first | (with_reducible refine gOps_dec (fun _ => ?_) (fun _ => ?_) <;> simp -implicitDefEqProofs [*, EQS]) | (with_reducible refine gOps_ndec (fun _ => ?_) (fun _ => ?_) <;> simp -implicitDefEqProofs [*, EQS]) | (with_reducible refine gOps_and (fun hq => ?_) (fun hq => ?_) <;> (try simp at hq) <;> simp -implicitDefEqProofs [*, EQS]) | (with_reducible refine gOps_or (fun hq => ?_) (fun hq => ?_) <;> (try simp at hq) <;> simp -implicitDefEqProofs [*, EQS]) | (with_reducible refine gOps_not (fun hq => ?_) (fun hq => ?_) <;> (try simp at hq) <;> simp -implicitDefEqProofs [*, EQS]) | (with_reducible refine gOps_split (fun hq => ?_) (fun hq => ?_) <;> (try simp at hq) <;> simp -implicitDefEqProofs [*, EQS]) | (with_reducible refine condC_dec (fun _ => ?_) (fun _ => ?_) <;> simp -implicitDefEqProofs [*, EQS]) | (with_reducible refine condC_ndec (fun _ => ?_) (fun _ => ?_) <;> simp -implicitDefEqProofs [*, EQS]) | (with_reducible refine condC_and (fun hq => ?_) (fun hq => ?_) <;> (try simp at hq) <;> simp -implicitDefEqProofs [*, EQS]) | (with_reducible refine condC_or (fun hq => ?_) (fun hq => ?_) <;> (try simp at hq) <;> simp -implicitDefEqProofs [*, EQS]) | (with_reducible refine condC_not (fun hq => ?_) (fun hq => ?_) <;> (try simp at hq) <;> simp -implicitDefEqProofs [*, EQS]) | (with_reducible refine condC_split (fun hq => ?_) (fun hq => ?_) <;> (try simp at hq) <;> simp -implicitDefEqProofs [*, EQS]) | (refine appK2_if (by omega) ?_; simp -implicitDefEqProofs [*, EQS]) | (refine pureV_if (by omega) ?_; simp -implicitDefEqProofs [*, EQS]))
  all_goals (simp only [noneM, zeroItem, Item.mk.injEq]; first | (simp [*]; done) | (simp [*]; grind) | grind)
theorem msg_none_nil (kind f t key ik ic iw iv : Int) (ig has : Bool) : Den PP 111 [.agg [.int .i64 kind, .int .i64 f, .int .i64 t, .nil, .int .i64 key, .int .i64 ik, .int .i64 ic, .int .i64 iw, .int .i64 iv, .bool ig, .bool has]] [] (.bool (noneM [] key ⟨ik, ic, iw, iv, ig⟩ has)) [] := by
  refine den_of [] [] is_msg_none ?_
  simp -implicitDefEqProofs [c_msg_none, EQS]
  repeat' (first | (with_reducible refine gOps_dec (fun _ => ?_) (fun _ => ?_) <;> simp -implicitDefEqProofs [*, EQS]) | (with_reducible refine gOps_ndec (fun _ => ?_) (fun _ => ?_) <;> simp -implicitDefEqProofs [*, EQS]) | (with_reducible refine gOps_and (fun hq => ?_) (fun hq => ?_) <;> (try simp at hq) <;> simp -implicitDefEqProofs [*, EQS]) | (with_reducible refine gOps_or (fun hq => ?_) (fun hq => ?_) <;> (try simp at hq) <;> simp -implicitDefEqProofs [*, EQS]) | (with_reducible refine gOps_not (fun hq => ?_) (fun hq => ?_) <;> (try simp at hq) <;> simp -implicitDefEqProofs [*, EQS]) | (with_reducible refine gOps_split (fun hq => ?_) (fun hq => ?_) <;> (try simp at hq) <;> simp -implicitDefEqProofs [*, EQS]) | (with_reducible refine condC_dec (fun _ => ?_) (fun _ => ?_) <;> simp -implicitDefEqProofs [*, EQS]) | (with_reducible refine condC_ndec (fun _ => ?_) (fun _ => ?_) <;> simp -implicitDefEqProofs [*, EQS]) | (with_reducible refine condC_and (fun hq => ?_) (fun hq => ?_) <;> (try simp at hq) <;> simp -implicitDefEqProofs [*, EQS]) | (with_reducible refine condC_or (fun hq => ?_) (fun hq => ?_) <;> (try simp at hq) <;> simp -implicitDefEqProofs [*, EQS]) | (with_reducible refine condC_not (fun hq => ?_) (fun hq => ?_) <;> (try simp at hq) <;> simp -implicitDefEqProofs [*, EQS]) | (with_reducible refine condC_split (fun hq => ?_) (fun hq => ?_) <;> (try simp at hq) <;> simp -implicitDefEqProofs [*, EQS]) | (refine appK2_if (by omega) ?_; simp -implicitDefEqProofs [*, EQS]) | (refine pureV_if (by omega) ?_; simp -implicitDefEqProofs [*, EQS]))
  all_goals (simp only [noneM, zeroItem, Item.mk.injEq]; first | (simp [*]; done) | (simp [*]; grind) | grind)
theorem msg_May (m : Msg) (hl : m.ids.length ≤ cap) : Den PP 85 [msgD m] [] (.bool (msgMay m)) [] := by
  obtain ⟨kind, from_, to, ids, key, ⟨ik, ic, iw, iv, ig⟩, has⟩ := m
  have c1 := ring_Places ids hl
  obtain ⟨A, hA⟩ : ∃ A, ids.all place = A := ⟨_, rfl⟩
  rw [hA] at c1
  simp only [intsD] at c1
  refine den_of [] [] is_msg_May ?_
  simp -implicitDefEqProofs [c_msg_May, msgD, Msg.row, intsD, EQS]
  repeat' (first | (refine callThen_of (by first | exact c1 | exact item_May_raw _ _ _ _ _ | exact ring_Place _ | exact msg_none_raw _ _ _ _ _ _ _ _ _ _ _ | exact msg_none_nil _ _ _ _ _ _ _ _ _ _ | exact den_nrm (msg_none_nil _ _ _ _ _ _ _ _ _ _) | exact den_nrm (by simpa using msg_none_nil _ _ _ _ _ _ _ _ _ _)) ?_; simp -implicitDefEqProofs [*, EQS]) | (with_reducible refine gOps_dec (fun _ => ?_) (fun _ => ?_) <;> simp -implicitDefEqProofs [*, EQS]) | (with_reducible refine gOps_ndec (fun _ => ?_) (fun _ => ?_) <;> simp -implicitDefEqProofs [*, EQS]) | (with_reducible refine gOps_and (fun hq => ?_) (fun hq => ?_) <;> (try simp at hq) <;> simp -implicitDefEqProofs [*, EQS]) | (with_reducible refine gOps_or (fun hq => ?_) (fun hq => ?_) <;> (try simp at hq) <;> simp -implicitDefEqProofs [*, EQS]) | (with_reducible refine gOps_not (fun hq => ?_) (fun hq => ?_) <;> (try simp at hq) <;> simp -implicitDefEqProofs [*, EQS]) | (with_reducible refine gOps_split (fun hq => ?_) (fun hq => ?_) <;> (try simp at hq) <;> simp -implicitDefEqProofs [*, EQS]) | (with_reducible refine condC_dec (fun _ => ?_) (fun _ => ?_) <;> simp -implicitDefEqProofs [*, EQS]) | (with_reducible refine condC_ndec (fun _ => ?_) (fun _ => ?_) <;> simp -implicitDefEqProofs [*, EQS]) | (with_reducible refine condC_and (fun hq => ?_) (fun hq => ?_) <;> (try simp at hq) <;> simp -implicitDefEqProofs [*, EQS]) | (with_reducible refine condC_or (fun hq => ?_) (fun hq => ?_) <;> (try simp at hq) <;> simp -implicitDefEqProofs [*, EQS]) | (with_reducible refine condC_not (fun hq => ?_) (fun hq => ?_) <;> (try simp at hq) <;> simp -implicitDefEqProofs [*, EQS]) | (with_reducible refine condC_split (fun hq => ?_) (fun hq => ?_) <;> (try simp at hq) <;> simp -implicitDefEqProofs [*, EQS]) | (refine appK2_if (by omega) ?_; simp -implicitDefEqProofs [*, EQS]) | (refine pureV_if (by omega) ?_; simp -implicitDefEqProofs [*, EQS]))
  all_goals (try simp only [noneM, zeroItem, Item.mk.injEq] at *)
  all_goals (simp only [msgMay, hA, zeroItem, Item.mk.injEq]; first | (simp [*]; done) | (simp [*]; grind) | grind)
end Go.AM
/- Plain law: a store takes items twice. -/
namespace Go.AM
set_option linter.unusedSimpArgs false
set_option linter.unusedVariables false

end Go.AM
/- AM: chapter 20's statements: TakeTwice, TakeBest. -/
namespace Go.AM
set_option linter.unusedSimpArgs false
set_option linter.unusedVariables false
set_option maxRecDepth 8000
set_option maxHeartbeats 0
def zeroNode : Node := ⟨false, ⟨0, [], []⟩, [], []⟩
theorem small_zero : zeroNode.small := by unfold Node.small View.small cap16 cap zeroNode; simp
end Go.AM
/- AM: contracts: asking, answering, being told; the document's. -/
namespace Go.AM
set_option linter.unusedSimpArgs false
set_option linter.unusedVariables false
set_option maxRecDepth 8000
set_option maxHeartbeats 0
def noteD (x : Node) (pre xs : List Told) : D := .agg [.bool x.up, .int .i64 x.view.id, .ref 0 0 x.view.peers.length, .ref 1 0 x.view.passive.length, .ref 2 0 x.items.length, .ref 3 pre.length xs.length]
def noteB (x : Node) (pre xs : List Told) : List Blk := [⟨x.view.peers.map Peer.row, 2, .mut⟩, ⟨x.view.passive.map irow, 1, .mut⟩, ⟨x.items.map Item.row, 5, .mut⟩, ⟨(pre ++ xs).map Told.row, 3, .mut⟩]
def logPre (x : Node) (t : Told) : List Told := (x.log ++ [t]).take (x.log.length + 1 - 64)
def logOf (x : Node) (t : Told) : List Told := (x.log ++ [t]).drop (x.log.length + 1 - 64)
theorem log_len (x : Node) (t : Told) : (logPre x t).length = x.log.length + 1 - 64 ∧ (logOf x t).length = x.log.length + 1 - (x.log.length + 1 - 64) ∧ logPre x t ++ logOf x t = x.log ++ [t] := by
  unfold logPre logOf
  refine ⟨by simp; omega, by simp, List.take_append_drop _ _⟩
theorem ask_note' (x : Node) (key : Int) (i : Item) (has : Bool) (hs : x.small) (hl : x.log.length ≤ 64) : Den PP 50 [nodeD x, .int .i64 key, .agg i.row, .bool has] [] (noteD x (logPre x (toldOf key i has)) (logOf x (toldOf key i has))) (noteB x (logPre x (toldOf key i has)) (logOf x (toldOf key i has))) := by
  have := ask_note x key i has hs hl
  obtain ⟨h1, h2, h3⟩ := log_len x (toldOf key i has)
  unfold noteD noteB
  rw [h1, h2, h3]
  exact this
def toB (x : Node) (m : Msg) (kind : Int) : Bool := nodeUp x && (msgMay m && (decide (m.kind = kind) && decide (m.to = x.view.id)))
theorem ask_to (x : Node) (m : Msg) (kind : Int) (hs : x.small) (hl : m.ids.length ≤ cap) : Den PP 56 [.mem x.cells, .mem m.row, .int .i64 kind] [] (.bool (toB x m kind)) [] := by
  have c1 := node_Up x hs
  have c2 := msg_May m hl
  unfold toB
  generalize nodeUp x = U at *
  generalize msgMay m = M at *
  simp only [nodeD, Node.cells, peersD, intsD, itemsD, toldsD, Item.row, msgD, Msg.row] at c1 c2 ⊢
  refine den_of [] [] is_ask_to ?_
  cases U <;> cases M
  all_goals
    simp -implicitDefEqProofs [c_ask_to]
    repeat' (first | (refine callThen_of (by first | exact c1 | exact c2) ?_; simp -implicitDefEqProofs [*]) | (with_reducible refine gOps_dec (fun _ => ?_) (fun _ => ?_) <;> simp -implicitDefEqProofs [*]) | (with_reducible refine gOps_ndec (fun _ => ?_) (fun _ => ?_) <;> simp -implicitDefEqProofs [*]) | (with_reducible refine gOps_and (fun hq => ?_) (fun hq => ?_) <;> (try simp at hq) <;> simp -implicitDefEqProofs [*]) | (with_reducible refine gOps_or (fun hq => ?_) (fun hq => ?_) <;> (try simp at hq) <;> simp -implicitDefEqProofs [*]) | (with_reducible refine gOps_not (fun hq => ?_) (fun hq => ?_) <;> (try simp at hq) <;> simp -implicitDefEqProofs [*]) | (with_reducible refine gOps_split (fun hq => ?_) (fun hq => ?_) <;> (try simp at hq) <;> simp -implicitDefEqProofs [*]) | (with_reducible refine condC_dec (fun _ => ?_) (fun _ => ?_) <;> simp -implicitDefEqProofs [*]) | (with_reducible refine condC_ndec (fun _ => ?_) (fun _ => ?_) <;> simp -implicitDefEqProofs [*]) | (with_reducible refine condC_and (fun hq => ?_) (fun hq => ?_) <;> (try simp at hq) <;> simp -implicitDefEqProofs [*]) | (with_reducible refine condC_or (fun hq => ?_) (fun hq => ?_) <;> (try simp at hq) <;> simp -implicitDefEqProofs [*]) | (with_reducible refine condC_not (fun hq => ?_) (fun hq => ?_) <;> (try simp at hq) <;> simp -implicitDefEqProofs [*]) | (with_reducible refine condC_split (fun hq => ?_) (fun hq => ?_) <;> (try simp at hq) <;> simp -implicitDefEqProofs [*]) | (refine appK2_if (by omega) ?_; simp -implicitDefEqProofs [*]) | (refine pureV_if (by omega) ?_; simp -implicitDefEqProofs [*]))
  all_goals (first | (simp [*]; done) | grind)
def askOf (x : Node) (to key : Int) : Msg := ⟨2, x.view.id, to, [], key, zeroItem, false⟩
def gotT (x : Node) (key : Int) : Told := toldOf key (getR x.items key).1 (getR x.items key).2
theorem nodeUp_log {x : Node} (h : nodeUp x = true) : x.log.length ≤ 64 := (nodeUp_parts h).2.2.2.1
theorem ask_Get_no (x : Node) (key : Int) (hs : x.small) (h : (nodeUp x && place key) = false) : Den PP 16 [nodeD x, .int .i64 key] [] (.tup [.agg [.bool false, .int .i64 0, .nil, .nil, .nil, .nil], .ref 0 0 0, .int .i64 2100]) [⟨[], 11, .mut⟩] := by
  have c1 := node_Up x hs
  have c2 := ring_Place key
  generalize nodeUp x = U at *
  generalize place key = M at *
  simp only [nodeD, Node.cells, peersD, intsD, itemsD, toldsD, Item.row] at c1 c2 ⊢
  refine den_of [] [] is_ask_Get ?_
  cases U <;> cases M
  all_goals
    simp at h
  all_goals
    simp -implicitDefEqProofs [c_ask_Get]
    repeat' (first | (refine callThen_of (by first | exact c1 | exact c2) ?_; simp -implicitDefEqProofs [*]) | (with_reducible refine gOps_dec (fun _ => ?_) (fun _ => ?_) <;> simp -implicitDefEqProofs [*]) | (with_reducible refine gOps_ndec (fun _ => ?_) (fun _ => ?_) <;> simp -implicitDefEqProofs [*]) | (with_reducible refine gOps_and (fun hq => ?_) (fun hq => ?_) <;> (try simp at hq) <;> simp -implicitDefEqProofs [*]) | (with_reducible refine gOps_or (fun hq => ?_) (fun hq => ?_) <;> (try simp at hq) <;> simp -implicitDefEqProofs [*]) | (with_reducible refine gOps_not (fun hq => ?_) (fun hq => ?_) <;> (try simp at hq) <;> simp -implicitDefEqProofs [*]) | (with_reducible refine gOps_split (fun hq => ?_) (fun hq => ?_) <;> (try simp at hq) <;> simp -implicitDefEqProofs [*]) | (with_reducible refine condC_dec (fun _ => ?_) (fun _ => ?_) <;> simp -implicitDefEqProofs [*]) | (with_reducible refine condC_ndec (fun _ => ?_) (fun _ => ?_) <;> simp -implicitDefEqProofs [*]) | (with_reducible refine condC_and (fun hq => ?_) (fun hq => ?_) <;> (try simp at hq) <;> simp -implicitDefEqProofs [*]) | (with_reducible refine condC_or (fun hq => ?_) (fun hq => ?_) <;> (try simp at hq) <;> simp -implicitDefEqProofs [*]) | (with_reducible refine condC_not (fun hq => ?_) (fun hq => ?_) <;> (try simp at hq) <;> simp -implicitDefEqProofs [*]) | (with_reducible refine condC_split (fun hq => ?_) (fun hq => ?_) <;> (try simp at hq) <;> simp -implicitDefEqProofs [*]) | (refine appK2_if (by omega) ?_; simp -implicitDefEqProofs [*]) | (refine pureV_if (by omega) ?_; simp -implicitDefEqProofs [*]))
theorem ask_Get_own (x : Node) (key : Int) (hs : x.small) (h1 : nodeUp x = true) (h2 : place key = true) (h3 : (ownerV x.view key).1 = x.view.id) : Den PP 16 [nodeD x, .int .i64 key] [] (.tup [noteD x (logPre x (gotT x key)) (logOf x (gotT x key)), .ref 4 0 0, .int .i64 0]) (noteB x (logPre x (gotT x key)) (logOf x (gotT x key)) ++ [⟨[], 11, .mut⟩]) := by
  have c1 := node_Up x hs
  have c2 := ring_Place key
  have c3 := view_Owner x.view key hs.1
  have c4 := store_Get x.items key (by have := hs.2.1; unfold cap16; omega)
  have c5 := ask_note' x key (getR x.items key).1 (getR x.items key).2 hs (nodeUp_log h1)
  rw [h1] at c1
  rw [h2] at c2
  unfold gotT
  generalize getR x.items key = r at *
  obtain ⟨⟨ik, ic, iw, iv, ig⟩, g2⟩ := r
  generalize hlp : logPre x (toldOf key _ _) = pre at *
  generalize hlo : logOf x (toldOf key _ _) = xs at *
  clear hlp hlo
  generalize ownerV x.view key = o at *
  obtain ⟨o1, o2⟩ := o
  simp only at h3
  subst h3
  simp only [nodeD, Node.cells, viewD, View.cells, peersD, intsD, itemsD, toldsD, Item.row, noteD, noteB, pairD] at c1 c2 c3 c4 c5 ⊢
  clear h1 h2
  refine den_of [45] [] is_ask_Get ?_
  simp -implicitDefEqProofs [c_ask_Get]
  repeat' (first | (refine callThen_of (by first | exact c1 | exact c2 | exact c3 | exact c4 | exact c5) ?_; simp -implicitDefEqProofs [*, downTo]) | (with_reducible refine gOps_dec (fun _ => ?_) (fun _ => ?_) <;> simp -implicitDefEqProofs [*, downTo]) | (with_reducible refine gOps_ndec (fun _ => ?_) (fun _ => ?_) <;> simp -implicitDefEqProofs [*, downTo]) | (with_reducible refine gOps_and (fun hq => ?_) (fun hq => ?_) <;> (try simp at hq) <;> simp -implicitDefEqProofs [*, downTo]) | (with_reducible refine gOps_or (fun hq => ?_) (fun hq => ?_) <;> (try simp at hq) <;> simp -implicitDefEqProofs [*, downTo]) | (with_reducible refine gOps_not (fun hq => ?_) (fun hq => ?_) <;> (try simp at hq) <;> simp -implicitDefEqProofs [*, downTo]) | (with_reducible refine gOps_split (fun hq => ?_) (fun hq => ?_) <;> (try simp at hq) <;> simp -implicitDefEqProofs [*, downTo]) | (with_reducible refine condC_dec (fun _ => ?_) (fun _ => ?_) <;> simp -implicitDefEqProofs [*, downTo]) | (with_reducible refine condC_ndec (fun _ => ?_) (fun _ => ?_) <;> simp -implicitDefEqProofs [*, downTo]) | (with_reducible refine condC_and (fun hq => ?_) (fun hq => ?_) <;> (try simp at hq) <;> simp -implicitDefEqProofs [*, downTo]) | (with_reducible refine condC_or (fun hq => ?_) (fun hq => ?_) <;> (try simp at hq) <;> simp -implicitDefEqProofs [*, downTo]) | (with_reducible refine condC_not (fun hq => ?_) (fun hq => ?_) <;> (try simp at hq) <;> simp -implicitDefEqProofs [*, downTo]) | (with_reducible refine condC_split (fun hq => ?_) (fun hq => ?_) <;> (try simp at hq) <;> simp -implicitDefEqProofs [*, downTo]) | (refine appK2_if (by omega) ?_; simp -implicitDefEqProofs [*, downTo]) | (refine pureV_if (by omega) ?_; simp -implicitDefEqProofs [*, downTo]))
theorem ask_Get_far (x : Node) (key : Int) (hs : x.small) (h1 : nodeUp x = true) (h2 : place key = true) (h3 : (ownerV x.view key).1 ≠ x.view.id) : Den PP 16 [nodeD x, .int .i64 key] [] (.tup [copyD x, .ref 4 0 1, .int .i64 0]) (nodeB x ++ [⟨[askOf x (ownerV x.view key).1 key].map Msg.row0, 11, .mut⟩]) := by
  have c1 := node_Up x hs
  have c2 := ring_Place key
  have c3 := view_Owner x.view key hs.1
  have c5 := node_Copy x hs
  rw [h1] at c1
  rw [h2] at c2
  generalize ownerV x.view key = o at *
  obtain ⟨o1, o2⟩ := o
  simp only at h3
  simp only [nodeD, Node.cells, viewD, View.cells, peersD, intsD, itemsD, toldsD, Item.row, copyD, nodeB, pairD, askOf, zeroItem, Msg.row0, List.map_cons, List.map_nil] at c1 c2 c3 c5 ⊢
  clear h1 h2
  refine den_of [47] [] is_ask_Get ?_
  simp -implicitDefEqProofs [c_ask_Get]
  repeat' (first | (refine callThen_of (by first | exact c1 | exact c2 | exact c3) ?_; simp -implicitDefEqProofs [*, downTo, h3]) | (with_reducible refine gOps_dec (fun _ => ?_) (fun _ => ?_) <;> simp -implicitDefEqProofs [*, downTo, h3]) | (with_reducible refine gOps_ndec (fun _ => ?_) (fun _ => ?_) <;> simp -implicitDefEqProofs [*, downTo, h3]) | (with_reducible refine gOps_and (fun hq => ?_) (fun hq => ?_) <;> (try simp at hq) <;> simp -implicitDefEqProofs [*, downTo, h3]) | (with_reducible refine gOps_or (fun hq => ?_) (fun hq => ?_) <;> (try simp at hq) <;> simp -implicitDefEqProofs [*, downTo, h3]) | (with_reducible refine gOps_not (fun hq => ?_) (fun hq => ?_) <;> (try simp at hq) <;> simp -implicitDefEqProofs [*, downTo, h3]) | (with_reducible refine gOps_split (fun hq => ?_) (fun hq => ?_) <;> (try simp at hq) <;> simp -implicitDefEqProofs [*, downTo, h3]) | (with_reducible refine condC_dec (fun _ => ?_) (fun _ => ?_) <;> simp -implicitDefEqProofs [*, downTo, h3]) | (with_reducible refine condC_ndec (fun _ => ?_) (fun _ => ?_) <;> simp -implicitDefEqProofs [*, downTo, h3]) | (with_reducible refine condC_and (fun hq => ?_) (fun hq => ?_) <;> (try simp at hq) <;> simp -implicitDefEqProofs [*, downTo, h3]) | (with_reducible refine condC_or (fun hq => ?_) (fun hq => ?_) <;> (try simp at hq) <;> simp -implicitDefEqProofs [*, downTo, h3]) | (with_reducible refine condC_not (fun hq => ?_) (fun hq => ?_) <;> (try simp at hq) <;> simp -implicitDefEqProofs [*, downTo, h3]) | (with_reducible refine condC_split (fun hq => ?_) (fun hq => ?_) <;> (try simp at hq) <;> simp -implicitDefEqProofs [*, downTo, h3]) | (refine appK2_if (by omega) ?_; simp -implicitDefEqProofs [*, downTo, h3]) | (refine pureV_if (by omega) ?_; simp -implicitDefEqProofs [*, downTo, h3]))
  repeat' apply And.intro
  all_goals repeat' (first | (refine callThen_of (by first | exact c5) ?_; simp -implicitDefEqProofs [*, downTo, h3]) | (with_reducible refine gOps_dec (fun _ => ?_) (fun _ => ?_) <;> simp -implicitDefEqProofs [*, downTo, h3]) | (with_reducible refine gOps_ndec (fun _ => ?_) (fun _ => ?_) <;> simp -implicitDefEqProofs [*, downTo, h3]) | (with_reducible refine gOps_and (fun hq => ?_) (fun hq => ?_) <;> (try simp at hq) <;> simp -implicitDefEqProofs [*, downTo, h3]) | (with_reducible refine gOps_or (fun hq => ?_) (fun hq => ?_) <;> (try simp at hq) <;> simp -implicitDefEqProofs [*, downTo, h3]) | (with_reducible refine gOps_not (fun hq => ?_) (fun hq => ?_) <;> (try simp at hq) <;> simp -implicitDefEqProofs [*, downTo, h3]) | (with_reducible refine gOps_split (fun hq => ?_) (fun hq => ?_) <;> (try simp at hq) <;> simp -implicitDefEqProofs [*, downTo, h3]) | (with_reducible refine condC_dec (fun _ => ?_) (fun _ => ?_) <;> simp -implicitDefEqProofs [*, downTo, h3]) | (with_reducible refine condC_ndec (fun _ => ?_) (fun _ => ?_) <;> simp -implicitDefEqProofs [*, downTo, h3]) | (with_reducible refine condC_and (fun hq => ?_) (fun hq => ?_) <;> (try simp at hq) <;> simp -implicitDefEqProofs [*, downTo, h3]) | (with_reducible refine condC_or (fun hq => ?_) (fun hq => ?_) <;> (try simp at hq) <;> simp -implicitDefEqProofs [*, downTo, h3]) | (with_reducible refine condC_not (fun hq => ?_) (fun hq => ?_) <;> (try simp at hq) <;> simp -implicitDefEqProofs [*, downTo, h3]) | (with_reducible refine condC_split (fun hq => ?_) (fun hq => ?_) <;> (try simp at hq) <;> simp -implicitDefEqProofs [*, downTo, h3]) | (refine appK2_if (by omega) ?_; simp -implicitDefEqProofs [*, downTo, h3]) | (refine pureV_if (by omega) ?_; simp -implicitDefEqProofs [*, downTo, h3]))
def tellOf (x : Node) (m : Msg) : Msg := ⟨3, x.view.id, m.from_, [], m.key, (getR x.items m.key).1, (getR x.items m.key).2⟩
theorem ask_Answer_no (x : Node) (m : Msg) (hs : x.small) (hl : m.ids.length ≤ cap) (h : toB x m 2 = false) : Den PP 18 [nodeD x, msgD m] [] (.tup [.ref 0 0 0, .int .i64 2100]) [⟨[], 11, .mut⟩] := by
  have c1 := ask_to x m 2 hs hl
  rw [h] at c1
  simp only [nodeD, Node.cells, peersD, intsD, itemsD, toldsD, Item.row, msgD, Msg.row] at c1 ⊢
  refine den_of [] [] is_ask_Answer ?_
  simp -implicitDefEqProofs [c_ask_Answer]
  repeat' (first | (refine callThen_of (by first | exact c1) ?_; simp -implicitDefEqProofs [*]) | (with_reducible refine gOps_dec (fun _ => ?_) (fun _ => ?_) <;> simp -implicitDefEqProofs [*]) | (with_reducible refine gOps_ndec (fun _ => ?_) (fun _ => ?_) <;> simp -implicitDefEqProofs [*]) | (with_reducible refine gOps_and (fun hq => ?_) (fun hq => ?_) <;> (try simp at hq) <;> simp -implicitDefEqProofs [*]) | (with_reducible refine gOps_or (fun hq => ?_) (fun hq => ?_) <;> (try simp at hq) <;> simp -implicitDefEqProofs [*]) | (with_reducible refine gOps_not (fun hq => ?_) (fun hq => ?_) <;> (try simp at hq) <;> simp -implicitDefEqProofs [*]) | (with_reducible refine gOps_split (fun hq => ?_) (fun hq => ?_) <;> (try simp at hq) <;> simp -implicitDefEqProofs [*]) | (with_reducible refine condC_dec (fun _ => ?_) (fun _ => ?_) <;> simp -implicitDefEqProofs [*]) | (with_reducible refine condC_ndec (fun _ => ?_) (fun _ => ?_) <;> simp -implicitDefEqProofs [*]) | (with_reducible refine condC_and (fun hq => ?_) (fun hq => ?_) <;> (try simp at hq) <;> simp -implicitDefEqProofs [*]) | (with_reducible refine condC_or (fun hq => ?_) (fun hq => ?_) <;> (try simp at hq) <;> simp -implicitDefEqProofs [*]) | (with_reducible refine condC_not (fun hq => ?_) (fun hq => ?_) <;> (try simp at hq) <;> simp -implicitDefEqProofs [*]) | (with_reducible refine condC_split (fun hq => ?_) (fun hq => ?_) <;> (try simp at hq) <;> simp -implicitDefEqProofs [*]) | (refine appK2_if (by omega) ?_; simp -implicitDefEqProofs [*]) | (refine pureV_if (by omega) ?_; simp -implicitDefEqProofs [*]))
theorem ask_Answer_ok (x : Node) (m : Msg) (hs : x.small) (hl : m.ids.length ≤ cap) (h : toB x m 2 = true) : Den PP 18 [nodeD x, msgD m] [] (.tup [.ref 0 0 1, .int .i64 0]) [⟨[tellOf x m].map Msg.row0, 11, .mut⟩] := by
  have c1 := ask_to x m 2 hs hl
  have c4 := store_Get x.items m.key (by have := hs.2.1; unfold cap16; omega)
  rw [h] at c1
  unfold tellOf
  generalize getR x.items m.key = r at *
  obtain ⟨⟨ik, ic, iw, iv, ig⟩, g2⟩ := r
  simp only [nodeD, Node.cells, peersD, intsD, itemsD, toldsD, Item.row, msgD, Msg.row, Msg.row0, List.map_cons, List.map_nil] at c1 c4 ⊢
  clear h
  refine den_of [] [] is_ask_Answer ?_
  simp -implicitDefEqProofs [c_ask_Answer]
  repeat' (first | (refine callThen_of (by first | exact c1 | exact c4) ?_; simp -implicitDefEqProofs [*, downTo]) | (with_reducible refine gOps_dec (fun _ => ?_) (fun _ => ?_) <;> simp -implicitDefEqProofs [*, downTo]) | (with_reducible refine gOps_ndec (fun _ => ?_) (fun _ => ?_) <;> simp -implicitDefEqProofs [*, downTo]) | (with_reducible refine gOps_and (fun hq => ?_) (fun hq => ?_) <;> (try simp at hq) <;> simp -implicitDefEqProofs [*, downTo]) | (with_reducible refine gOps_or (fun hq => ?_) (fun hq => ?_) <;> (try simp at hq) <;> simp -implicitDefEqProofs [*, downTo]) | (with_reducible refine gOps_not (fun hq => ?_) (fun hq => ?_) <;> (try simp at hq) <;> simp -implicitDefEqProofs [*, downTo]) | (with_reducible refine gOps_split (fun hq => ?_) (fun hq => ?_) <;> (try simp at hq) <;> simp -implicitDefEqProofs [*, downTo]) | (with_reducible refine condC_dec (fun _ => ?_) (fun _ => ?_) <;> simp -implicitDefEqProofs [*, downTo]) | (with_reducible refine condC_ndec (fun _ => ?_) (fun _ => ?_) <;> simp -implicitDefEqProofs [*, downTo]) | (with_reducible refine condC_and (fun hq => ?_) (fun hq => ?_) <;> (try simp at hq) <;> simp -implicitDefEqProofs [*, downTo]) | (with_reducible refine condC_or (fun hq => ?_) (fun hq => ?_) <;> (try simp at hq) <;> simp -implicitDefEqProofs [*, downTo]) | (with_reducible refine condC_not (fun hq => ?_) (fun hq => ?_) <;> (try simp at hq) <;> simp -implicitDefEqProofs [*, downTo]) | (with_reducible refine condC_split (fun hq => ?_) (fun hq => ?_) <;> (try simp at hq) <;> simp -implicitDefEqProofs [*, downTo]) | (refine appK2_if (by omega) ?_; simp -implicitDefEqProofs [*, downTo]) | (refine pureV_if (by omega) ?_; simp -implicitDefEqProofs [*, downTo]))
  repeat' apply And.intro
  all_goals repeat' (first | (with_reducible refine gOps_dec (fun _ => ?_) (fun _ => ?_) <;> simp -implicitDefEqProofs [*, downTo]) | (with_reducible refine gOps_ndec (fun _ => ?_) (fun _ => ?_) <;> simp -implicitDefEqProofs [*, downTo]) | (with_reducible refine gOps_and (fun hq => ?_) (fun hq => ?_) <;> (try simp at hq) <;> simp -implicitDefEqProofs [*, downTo]) | (with_reducible refine gOps_or (fun hq => ?_) (fun hq => ?_) <;> (try simp at hq) <;> simp -implicitDefEqProofs [*, downTo]) | (with_reducible refine gOps_not (fun hq => ?_) (fun hq => ?_) <;> (try simp at hq) <;> simp -implicitDefEqProofs [*, downTo]) | (with_reducible refine gOps_split (fun hq => ?_) (fun hq => ?_) <;> (try simp at hq) <;> simp -implicitDefEqProofs [*, downTo]) | (with_reducible refine condC_dec (fun _ => ?_) (fun _ => ?_) <;> simp -implicitDefEqProofs [*, downTo]) | (with_reducible refine condC_ndec (fun _ => ?_) (fun _ => ?_) <;> simp -implicitDefEqProofs [*, downTo]) | (with_reducible refine condC_and (fun hq => ?_) (fun hq => ?_) <;> (try simp at hq) <;> simp -implicitDefEqProofs [*, downTo]) | (with_reducible refine condC_or (fun hq => ?_) (fun hq => ?_) <;> (try simp at hq) <;> simp -implicitDefEqProofs [*, downTo]) | (with_reducible refine condC_not (fun hq => ?_) (fun hq => ?_) <;> (try simp at hq) <;> simp -implicitDefEqProofs [*, downTo]) | (with_reducible refine condC_split (fun hq => ?_) (fun hq => ?_) <;> (try simp at hq) <;> simp -implicitDefEqProofs [*, downTo]) | (refine appK2_if (by omega) ?_; simp -implicitDefEqProofs [*, downTo]) | (refine pureV_if (by omega) ?_; simp -implicitDefEqProofs [*, downTo]))
theorem ask_Told_no (x : Node) (m : Msg) (hs : x.small) (hl : m.ids.length ≤ cap) (h : toB x m 3 = false) : Den PP 20 [nodeD x, msgD m] [] (.tup [.agg [.bool false, .int .i64 0, .nil, .nil, .nil, .nil], .int .i64 2100]) [] := by
  have c1 := ask_to x m 3 hs hl
  rw [h] at c1
  simp only [nodeD, Node.cells, peersD, intsD, itemsD, toldsD, Item.row, msgD, Msg.row] at c1 ⊢
  refine den_of [] [] is_ask_Told ?_
  simp -implicitDefEqProofs [c_ask_Told]
  repeat' (first | (refine callThen_of (by first | exact c1) ?_; simp -implicitDefEqProofs [*]) | (with_reducible refine gOps_dec (fun _ => ?_) (fun _ => ?_) <;> simp -implicitDefEqProofs [*]) | (with_reducible refine gOps_ndec (fun _ => ?_) (fun _ => ?_) <;> simp -implicitDefEqProofs [*]) | (with_reducible refine gOps_and (fun hq => ?_) (fun hq => ?_) <;> (try simp at hq) <;> simp -implicitDefEqProofs [*]) | (with_reducible refine gOps_or (fun hq => ?_) (fun hq => ?_) <;> (try simp at hq) <;> simp -implicitDefEqProofs [*]) | (with_reducible refine gOps_not (fun hq => ?_) (fun hq => ?_) <;> (try simp at hq) <;> simp -implicitDefEqProofs [*]) | (with_reducible refine gOps_split (fun hq => ?_) (fun hq => ?_) <;> (try simp at hq) <;> simp -implicitDefEqProofs [*]) | (with_reducible refine condC_dec (fun _ => ?_) (fun _ => ?_) <;> simp -implicitDefEqProofs [*]) | (with_reducible refine condC_ndec (fun _ => ?_) (fun _ => ?_) <;> simp -implicitDefEqProofs [*]) | (with_reducible refine condC_and (fun hq => ?_) (fun hq => ?_) <;> (try simp at hq) <;> simp -implicitDefEqProofs [*]) | (with_reducible refine condC_or (fun hq => ?_) (fun hq => ?_) <;> (try simp at hq) <;> simp -implicitDefEqProofs [*]) | (with_reducible refine condC_not (fun hq => ?_) (fun hq => ?_) <;> (try simp at hq) <;> simp -implicitDefEqProofs [*]) | (with_reducible refine condC_split (fun hq => ?_) (fun hq => ?_) <;> (try simp at hq) <;> simp -implicitDefEqProofs [*]) | (refine appK2_if (by omega) ?_; simp -implicitDefEqProofs [*]) | (refine pureV_if (by omega) ?_; simp -implicitDefEqProofs [*]))
def mT (m : Msg) : Told := toldOf m.key m.item m.has
theorem ask_Told_ok (x : Node) (m : Msg) (hs : x.small) (hl : m.ids.length ≤ cap) (h : toB x m 3 = true) : Den PP 20 [nodeD x, msgD m] [] (.tup [noteD x (logPre x (mT m)) (logOf x (mT m)), .int .i64 0]) (noteB x (logPre x (mT m)) (logOf x (mT m))) := by
  have c1 := ask_to x m 3 hs hl
  rw [h] at c1
  unfold toB at h
  simp only [Bool.and_eq_true, decide_eq_true_eq] at h
  have c5 := ask_note' x m.key m.item m.has hs (nodeUp_log h.1)
  clear h
  unfold mT
  generalize logPre x (toldOf m.key m.item m.has) = pre at *
  generalize logOf x (toldOf m.key m.item m.has) = xs at *
  simp only [nodeD, Node.cells, peersD, intsD, itemsD, toldsD, Item.row, msgD, Msg.row, noteD, noteB] at c1 c5 ⊢
  refine den_of [16] [] is_ask_Told ?_
  simp -implicitDefEqProofs [c_ask_Told]
  repeat' (first | (refine callThen_of (by first | exact c1 | exact c5) ?_; simp -implicitDefEqProofs [*, downTo]) | (with_reducible refine gOps_dec (fun _ => ?_) (fun _ => ?_) <;> simp -implicitDefEqProofs [*, downTo]) | (with_reducible refine gOps_ndec (fun _ => ?_) (fun _ => ?_) <;> simp -implicitDefEqProofs [*, downTo]) | (with_reducible refine gOps_and (fun hq => ?_) (fun hq => ?_) <;> (try simp at hq) <;> simp -implicitDefEqProofs [*, downTo]) | (with_reducible refine gOps_or (fun hq => ?_) (fun hq => ?_) <;> (try simp at hq) <;> simp -implicitDefEqProofs [*, downTo]) | (with_reducible refine gOps_not (fun hq => ?_) (fun hq => ?_) <;> (try simp at hq) <;> simp -implicitDefEqProofs [*, downTo]) | (with_reducible refine gOps_split (fun hq => ?_) (fun hq => ?_) <;> (try simp at hq) <;> simp -implicitDefEqProofs [*, downTo]) | (with_reducible refine condC_dec (fun _ => ?_) (fun _ => ?_) <;> simp -implicitDefEqProofs [*, downTo]) | (with_reducible refine condC_ndec (fun _ => ?_) (fun _ => ?_) <;> simp -implicitDefEqProofs [*, downTo]) | (with_reducible refine condC_and (fun hq => ?_) (fun hq => ?_) <;> (try simp at hq) <;> simp -implicitDefEqProofs [*, downTo]) | (with_reducible refine condC_or (fun hq => ?_) (fun hq => ?_) <;> (try simp at hq) <;> simp -implicitDefEqProofs [*, downTo]) | (with_reducible refine condC_not (fun hq => ?_) (fun hq => ?_) <;> (try simp at hq) <;> simp -implicitDefEqProofs [*, downTo]) | (with_reducible refine condC_split (fun hq => ?_) (fun hq => ?_) <;> (try simp at hq) <;> simp -implicitDefEqProofs [*, downTo]) | (refine appK2_if (by omega) ?_; simp -implicitDefEqProofs [*, downTo]) | (refine pureV_if (by omega) ?_; simp -implicitDefEqProofs [*, downTo]))
end Go.AM
/- AM: chapter 21's statements: Asks. -/
namespace Go.AM
set_option linter.unusedSimpArgs false
set_option linter.unusedVariables false
set_option maxRecDepth 8000
set_option maxHeartbeats 0
theorem law21_it (k c : Int) : Den PP 30 [.int .i64 k, .int .i64 c] [] (.agg (itT k c).row) [] := by
  refine den_of [] [] is_gimmallaw21_it ?_
  simp -implicitDefEqProofs [c_gimmallaw21_it, itT, Item.row]
theorem law21_node100 : Den PP 29 [] [] (.agg [.bool true, .int .i64 100, .ref 0 0 3, .ref 1 0 1, .ref 2 0 3, .nil]) [⟨nodeT.view.peers.map Peer.row, 2, .mut⟩, ⟨nodeT.view.passive.map irow, 1, .mut⟩, ⟨nodeT.items.map Item.row, 5, .mut⟩] := by
  have i1 := law21_it 95 1
  have i2 := law21_it 99 3
  have i3 := law21_it 250 2
  simp [itT, Item.row] at i1 i2 i3
  refine den_of [] [] is_gimmallaw21_node100 ?_
  simp -implicitDefEqProofs [c_gimmallaw21_node100, nodeT, Peer.row, irow, Item.row]
  repeat' (first | (refine callThen_of (by first | exact i1 | exact i2 | exact i3) ?_; simp -implicitDefEqProofs [*, nodeT, Peer.row, irow, Item.row]) | (with_reducible refine gOps_dec (fun _ => ?_) (fun _ => ?_) <;> simp -implicitDefEqProofs [*, nodeT, Peer.row, irow, Item.row]) | (with_reducible refine gOps_ndec (fun _ => ?_) (fun _ => ?_) <;> simp -implicitDefEqProofs [*, nodeT, Peer.row, irow, Item.row]) | (with_reducible refine gOps_and (fun hq => ?_) (fun hq => ?_) <;> (try simp at hq) <;> simp -implicitDefEqProofs [*, nodeT, Peer.row, irow, Item.row]) | (with_reducible refine gOps_or (fun hq => ?_) (fun hq => ?_) <;> (try simp at hq) <;> simp -implicitDefEqProofs [*, nodeT, Peer.row, irow, Item.row]) | (with_reducible refine gOps_not (fun hq => ?_) (fun hq => ?_) <;> (try simp at hq) <;> simp -implicitDefEqProofs [*, nodeT, Peer.row, irow, Item.row]) | (with_reducible refine gOps_split (fun hq => ?_) (fun hq => ?_) <;> (try simp at hq) <;> simp -implicitDefEqProofs [*, nodeT, Peer.row, irow, Item.row]) | (with_reducible refine condC_dec (fun _ => ?_) (fun _ => ?_) <;> simp -implicitDefEqProofs [*, nodeT, Peer.row, irow, Item.row]) | (with_reducible refine condC_ndec (fun _ => ?_) (fun _ => ?_) <;> simp -implicitDefEqProofs [*, nodeT, Peer.row, irow, Item.row]) | (with_reducible refine condC_and (fun hq => ?_) (fun hq => ?_) <;> (try simp at hq) <;> simp -implicitDefEqProofs [*, nodeT, Peer.row, irow, Item.row]) | (with_reducible refine condC_or (fun hq => ?_) (fun hq => ?_) <;> (try simp at hq) <;> simp -implicitDefEqProofs [*, nodeT, Peer.row, irow, Item.row]) | (with_reducible refine condC_not (fun hq => ?_) (fun hq => ?_) <;> (try simp at hq) <;> simp -implicitDefEqProofs [*, nodeT, Peer.row, irow, Item.row]) | (with_reducible refine condC_split (fun hq => ?_) (fun hq => ?_) <;> (try simp at hq) <;> simp -implicitDefEqProofs [*, nodeT, Peer.row, irow, Item.row]) | (refine appK2_if (by omega) ?_; simp -implicitDefEqProofs [*, nodeT, Peer.row, irow, Item.row]) | (refine pureV_if (by omega) ?_; simp -implicitDefEqProofs [*, nodeT, Peer.row, irow, Item.row]))
theorem law21_awake : Den PP 28 [] [] (.bool true) [] := by
  have g1 := ask_Get_own nodeT 99 small_nodeT (by decide +kernel) (by decide +kernel) (by decide +kernel)
  have g2 := ask_Get_far nodeT 250 small_nodeT (by decide +kernel) (by decide +kernel) (by decide +kernel)
  have g3 := ask_Answer_ok nodeT ⟨2, 9, 100, [], 95, zeroItem, false⟩ small_nodeT (by unfold cap; simp) (by decide +kernel)
  have g4 := ask_Told_ok nodeT ⟨3, 9, 100, [], 5, zeroItem, false⟩ small_nodeT (by unfold cap; simp) (by decide +kernel)
  have g5 := ask_Get_no nodeT 256 small_nodeT (by decide +kernel)
  have g6 := ask_Answer_no nodeT ⟨2, 9, 101, [], 95, zeroItem, false⟩ small_nodeT (by unfold cap; simp) (by decide +kernel)
  have e1 : logOf nodeT (gotT nodeT 99) = [⟨99, true, 3⟩] := by decide +kernel
  have e2 : logPre nodeT (gotT nodeT 99) = [] := by decide +kernel
  have e3 : (ownerV nodeT.view 250).1 = 90 := by decide +kernel
  have e4 : tellOf nodeT ⟨2, 9, 100, [], 95, zeroItem, false⟩ = ⟨3, 100, 9, [], 95, itT 95 1, true⟩ := by decide +kernel
  have e5 : logOf nodeT (mT ⟨3, 9, 100, [], 5, zeroItem, false⟩) = [⟨5, false, 0⟩] := by decide +kernel
  have e6 : logPre nodeT (mT ⟨3, 9, 100, [], 5, zeroItem, false⟩) = [] := by decide +kernel
  rw [e1, e2] at g1
  rw [e3] at g2
  rw [e4] at g3
  rw [e5, e6] at g4
  have s1 := law_SameTolds [⟨99, true, 3⟩] [⟨99, true, 3⟩] (by unfold cap; simp)
  have s2 := law_SameTolds [⟨5, false, 0⟩] [⟨5, false, 0⟩] (by unfold cap; simp)
  have i1 := law21_it 95 1
  clear e1 e2 e3 e4 e5 e6
  simp [noteD, noteB, copyD, nodeB, nodeT, itT, zeroItem, nodeD, Node.cells, peersD, intsD, itemsD, toldsD, Peer.row, irow, Item.row, Told.row, msgD, Msg.row, Msg.row0, askOf] at g1 g2 g3 g4 g5 g6 i1 s1 s2
  have g0 := law21_node100
  simp [nodeT, Peer.row, irow, Item.row] at g0
  refine den_of [] [] is_gimmallaw21_awake ?_
  simp -implicitDefEqProofs [c_gimmallaw21_awake]
  repeat' (first | (refine callThen_of (by first | exact g0 | exact i1 | exact g1 | exact den_nrm (g1) | exact den_nrm (by simpa using g1) | exact g2 | exact den_nrm (g2) | exact den_nrm (by simpa using g2) | exact g3 | exact den_nrm (g3) | exact den_nrm (by simpa using g3) | exact g4 | exact den_nrm (g4) | exact den_nrm (by simpa using g4) | exact g5 | exact den_nrm (g5) | exact den_nrm (by simpa using g5) | exact g6 | exact den_nrm (g6) | exact den_nrm (by simpa using g6) | exact s1 | exact den_nrm (s1) | exact den_nrm (by simpa using s1) | exact s2 | exact den_nrm (s2) | exact den_nrm (by simpa using s2) | exact law_Num _) ?_; simp -implicitDefEqProofs [*, downTo, EQS]) | (with_reducible refine gOps_dec (fun _ => ?_) (fun _ => ?_) <;> simp -implicitDefEqProofs [*, downTo, EQS]) | (with_reducible refine gOps_ndec (fun _ => ?_) (fun _ => ?_) <;> simp -implicitDefEqProofs [*, downTo, EQS]) | (with_reducible refine gOps_and (fun hq => ?_) (fun hq => ?_) <;> (try simp at hq) <;> simp -implicitDefEqProofs [*, downTo, EQS]) | (with_reducible refine gOps_or (fun hq => ?_) (fun hq => ?_) <;> (try simp at hq) <;> simp -implicitDefEqProofs [*, downTo, EQS]) | (with_reducible refine gOps_not (fun hq => ?_) (fun hq => ?_) <;> (try simp at hq) <;> simp -implicitDefEqProofs [*, downTo, EQS]) | (with_reducible refine gOps_split (fun hq => ?_) (fun hq => ?_) <;> (try simp at hq) <;> simp -implicitDefEqProofs [*, downTo, EQS]) | (with_reducible refine condC_dec (fun _ => ?_) (fun _ => ?_) <;> simp -implicitDefEqProofs [*, downTo, EQS]) | (with_reducible refine condC_ndec (fun _ => ?_) (fun _ => ?_) <;> simp -implicitDefEqProofs [*, downTo, EQS]) | (with_reducible refine condC_and (fun hq => ?_) (fun hq => ?_) <;> (try simp at hq) <;> simp -implicitDefEqProofs [*, downTo, EQS]) | (with_reducible refine condC_or (fun hq => ?_) (fun hq => ?_) <;> (try simp at hq) <;> simp -implicitDefEqProofs [*, downTo, EQS]) | (with_reducible refine condC_not (fun hq => ?_) (fun hq => ?_) <;> (try simp at hq) <;> simp -implicitDefEqProofs [*, downTo, EQS]) | (with_reducible refine condC_split (fun hq => ?_) (fun hq => ?_) <;> (try simp at hq) <;> simp -implicitDefEqProofs [*, downTo, EQS]) | (refine appK2_if (by omega) ?_; simp -implicitDefEqProofs [*, downTo, EQS]) | (refine pureV_if (by omega) ?_; simp -implicitDefEqProofs [*, downTo, EQS]))
end Go.AM
/- AM: chapter 21's statements: Asks. -/
namespace Go.AM
set_option linter.unusedSimpArgs false
set_option linter.unusedVariables false
set_option maxRecDepth 8000
set_option maxHeartbeats 0
end Go.AM
/- AM: chapter 21's statements: Asks, AskForms, AskHome. -/
namespace Go.AM
set_option linter.unusedSimpArgs false
set_option linter.unusedVariables false
set_option maxRecDepth 8000
set_option maxHeartbeats 0
@[simp] theorem nrmLL_rep (n : Nat) (r : List D) : nrmLL (List.replicate n r) = List.replicate n (nrmL r) := by
  induction n with
  | zero => rfl
  | succ n ih => simp [List.replicate_succ, nrmLL, ih]
theorem law21_AskForms (which x : Int) : Den PP 4 [.int .i64 which, .int .i64 x] [] (.bool true) [] := by
  have hd : 0 ≤ x % 1024 ∧ x % 1024 < 1024 := by omega
  have w1 : IntKind.wrap .i64 (1 + x % 1024) = 1 + x % 1024 := wrap_in (by omega) (by omega)
  have w2 : IntKind.wrap .i64 (64 + (1 + x % 1024)) = 64 + (1 + x % 1024) := wrap_in (by omega) (by omega)
  have w3 : IntKind.wrap .i64 (255 + (1 + x % 1024)) = 255 + (1 + x % 1024) := wrap_in (by omega) (by omega)
  have b1 : (0 : Int) ≤ 64 + (1 + x % 1024) := by omega
  have b2 : (64 + (1 + x % 1024)) * 24 ≤ 140737488355328 := by omega
  have b3 : 64 + (1 + x % 1024) ≤ 9223372036854775807 := by omega
  have i1 := law21_it 9 0
  have g0 := law21_node100
  have g2 := law_SameNode zeroNode zeroNode small_zero
  have hz : ∀ m : Msg, m.ids = [] → m.ids.length ≤ cap := by intro m h; rw [h]; simp
  have d4 := ask_Answer_no nodeT ⟨3, 9, 100, [], 95, zeroItem, false⟩ small_nodeT (hz _ rfl) (by decide +kernel)
  have d5 := ask_Told_no nodeT ⟨2, 9, 100, [], 95, zeroItem, false⟩ small_nodeT (hz _ rfl) (by decide +kernel)
  have d6 := ask_Told_no nodeT ⟨3, 9, 101, [], 95, zeroItem, false⟩ small_nodeT (hz _ rfl) (by decide +kernel)
  have d7 := ask_Get_no nodeT (255 + (1 + x % 1024)) small_nodeT (by
    have : place (255 + (1 + x % 1024)) = false := by
      simp only [place, Bool.and_eq_false_iff, decide_eq_false_iff_not]; omega
    rw [this]; simp)
  simp [zeroNode, nodeT, itT, nodeD, Node.cells, peersD, intsD, itemsD, toldsD, Peer.row, irow, Item.row, Told.row, msgD, Msg.row, zeroItem] at i1 g0 g2 d4 d5 d6 d7
  have bad : ∀ b : Node, nodeUp b = false → b.small → Den PP 16 [nodeD b, .int .i64 5] [] (.tup [.agg [.bool false, .int .i64 0, .nil, .nil, .nil, .nil], .ref 0 0 0, .int .i64 2100]) [⟨[], 11, .mut⟩] ∧
      Den PP 18 [nodeD b, msgD ⟨2, 9, 100, [], 95, zeroItem, false⟩] [] (.tup [.ref 0 0 0, .int .i64 2100]) [⟨[], 11, .mut⟩] ∧
      Den PP 20 [nodeD b, msgD ⟨3, 9, 100, [], 95, zeroItem, false⟩] [] (.tup [.agg [.bool false, .int .i64 0, .nil, .nil, .nil, .nil], .int .i64 2100]) [] := by
    intro b h hb
    exact ⟨ask_Get_no b 5 hb (by rw [h]; rfl), ask_Answer_no b _ hb (hz _ rfl) (by unfold toB; rw [h]; rfl), ask_Told_no b _ hb (hz _ rfl) (by unfold toB; rw [h]; rfl)⟩
  have hw : which % 4 = 0 ∨ which % 4 = 1 ∨ which % 4 = 2 ∨ which % 4 = 3 := by omega
  refine den_of [30] [] is_gimmallaw21_AskForms ?_
  rcases hw with hw | hw | hw | hw
  · obtain ⟨c1, c2, c3⟩ := bad ⟨false, ⟨100, [], []⟩, [], []⟩ (by decide +kernel) (by unfold Node.small View.small cap16 cap; simp [nodeT]; try omega)
    clear bad
    simp [nodeT, itT, nodeD, Node.cells, peersD, intsD, itemsD, toldsD, Peer.row, irow, Item.row, Told.row, msgD, Msg.row, zeroItem] at c1 c2 c3
    simp -implicitDefEqProofs [c_gimmallaw21_AskForms, hw, w1, w2, w3]
    repeat' (first | (refine callThen_of (by first | exact law21_awake | exact g0 | exact c1 | exact den_nrm (c1) | exact den_nrm (by simpa using c1) | exact c2 | exact den_nrm (c2) | exact den_nrm (by simpa using c2) | exact c3 | exact den_nrm (c3) | exact den_nrm (by simpa using c3) | exact d4 | exact den_nrm (d4) | exact den_nrm (by simpa using d4) | exact d5 | exact den_nrm (d5) | exact den_nrm (by simpa using d5) | exact d6 | exact den_nrm (d6) | exact den_nrm (by simpa using d6) | exact d7 | exact den_nrm (d7) | exact den_nrm (by simpa using d7) | exact g2 | exact den_nrm (g2) | exact den_nrm (by simpa using g2) | exact law_Num _ | exact i1) ?_; simp -implicitDefEqProofs [*, downTo, hw, w1, w2, w3, b1, b2, b3, reach]) | (with_reducible refine gOps_dec (fun _ => ?_) (fun _ => ?_) <;> simp -implicitDefEqProofs [*, downTo, hw, w1, w2, w3, b1, b2, b3, reach]) | (with_reducible refine gOps_ndec (fun _ => ?_) (fun _ => ?_) <;> simp -implicitDefEqProofs [*, downTo, hw, w1, w2, w3, b1, b2, b3, reach]) | (with_reducible refine gOps_and (fun hq => ?_) (fun hq => ?_) <;> (try simp at hq) <;> simp -implicitDefEqProofs [*, downTo, hw, w1, w2, w3, b1, b2, b3, reach]) | (with_reducible refine gOps_or (fun hq => ?_) (fun hq => ?_) <;> (try simp at hq) <;> simp -implicitDefEqProofs [*, downTo, hw, w1, w2, w3, b1, b2, b3, reach]) | (with_reducible refine gOps_not (fun hq => ?_) (fun hq => ?_) <;> (try simp at hq) <;> simp -implicitDefEqProofs [*, downTo, hw, w1, w2, w3, b1, b2, b3, reach]) | (with_reducible refine gOps_split (fun hq => ?_) (fun hq => ?_) <;> (try simp at hq) <;> simp -implicitDefEqProofs [*, downTo, hw, w1, w2, w3, b1, b2, b3, reach]) | (with_reducible refine condC_dec (fun _ => ?_) (fun _ => ?_) <;> simp -implicitDefEqProofs [*, downTo, hw, w1, w2, w3, b1, b2, b3, reach]) | (with_reducible refine condC_ndec (fun _ => ?_) (fun _ => ?_) <;> simp -implicitDefEqProofs [*, downTo, hw, w1, w2, w3, b1, b2, b3, reach]) | (with_reducible refine condC_and (fun hq => ?_) (fun hq => ?_) <;> (try simp at hq) <;> simp -implicitDefEqProofs [*, downTo, hw, w1, w2, w3, b1, b2, b3, reach]) | (with_reducible refine condC_or (fun hq => ?_) (fun hq => ?_) <;> (try simp at hq) <;> simp -implicitDefEqProofs [*, downTo, hw, w1, w2, w3, b1, b2, b3, reach]) | (with_reducible refine condC_not (fun hq => ?_) (fun hq => ?_) <;> (try simp at hq) <;> simp -implicitDefEqProofs [*, downTo, hw, w1, w2, w3, b1, b2, b3, reach]) | (with_reducible refine condC_split (fun hq => ?_) (fun hq => ?_) <;> (try simp at hq) <;> simp -implicitDefEqProofs [*, downTo, hw, w1, w2, w3, b1, b2, b3, reach]) | (refine appK2_if (by omega) ?_; simp -implicitDefEqProofs [*, downTo, hw, w1, w2, w3, b1, b2, b3, reach]) | (refine pureV_if (by omega) ?_; simp -implicitDefEqProofs [*, downTo, hw, w1, w2, w3, b1, b2, b3, reach]))
  · obtain ⟨c1, c2, c3⟩ := bad { nodeT with items := [⟨9, 0, 1, 0, false⟩] } (by decide +kernel) (by unfold Node.small View.small cap16 cap; simp [nodeT]; try omega)
    clear bad
    simp [nodeT, itT, nodeD, Node.cells, peersD, intsD, itemsD, toldsD, Peer.row, irow, Item.row, Told.row, msgD, Msg.row, zeroItem] at c1 c2 c3
    simp -implicitDefEqProofs [c_gimmallaw21_AskForms, hw, w1, w2, w3]
    repeat' (first | (refine callThen_of (by first | exact law21_awake | exact g0 | exact c1 | exact den_nrm (c1) | exact den_nrm (by simpa using c1) | exact c2 | exact den_nrm (c2) | exact den_nrm (by simpa using c2) | exact c3 | exact den_nrm (c3) | exact den_nrm (by simpa using c3) | exact d4 | exact den_nrm (d4) | exact den_nrm (by simpa using d4) | exact d5 | exact den_nrm (d5) | exact den_nrm (by simpa using d5) | exact d6 | exact den_nrm (d6) | exact den_nrm (by simpa using d6) | exact d7 | exact den_nrm (d7) | exact den_nrm (by simpa using d7) | exact g2 | exact den_nrm (g2) | exact den_nrm (by simpa using g2) | exact law_Num _ | exact i1) ?_; simp -implicitDefEqProofs [*, downTo, hw, w1, w2, w3, b1, b2, b3, reach]) | (with_reducible refine gOps_dec (fun _ => ?_) (fun _ => ?_) <;> simp -implicitDefEqProofs [*, downTo, hw, w1, w2, w3, b1, b2, b3, reach]) | (with_reducible refine gOps_ndec (fun _ => ?_) (fun _ => ?_) <;> simp -implicitDefEqProofs [*, downTo, hw, w1, w2, w3, b1, b2, b3, reach]) | (with_reducible refine gOps_and (fun hq => ?_) (fun hq => ?_) <;> (try simp at hq) <;> simp -implicitDefEqProofs [*, downTo, hw, w1, w2, w3, b1, b2, b3, reach]) | (with_reducible refine gOps_or (fun hq => ?_) (fun hq => ?_) <;> (try simp at hq) <;> simp -implicitDefEqProofs [*, downTo, hw, w1, w2, w3, b1, b2, b3, reach]) | (with_reducible refine gOps_not (fun hq => ?_) (fun hq => ?_) <;> (try simp at hq) <;> simp -implicitDefEqProofs [*, downTo, hw, w1, w2, w3, b1, b2, b3, reach]) | (with_reducible refine gOps_split (fun hq => ?_) (fun hq => ?_) <;> (try simp at hq) <;> simp -implicitDefEqProofs [*, downTo, hw, w1, w2, w3, b1, b2, b3, reach]) | (with_reducible refine condC_dec (fun _ => ?_) (fun _ => ?_) <;> simp -implicitDefEqProofs [*, downTo, hw, w1, w2, w3, b1, b2, b3, reach]) | (with_reducible refine condC_ndec (fun _ => ?_) (fun _ => ?_) <;> simp -implicitDefEqProofs [*, downTo, hw, w1, w2, w3, b1, b2, b3, reach]) | (with_reducible refine condC_and (fun hq => ?_) (fun hq => ?_) <;> (try simp at hq) <;> simp -implicitDefEqProofs [*, downTo, hw, w1, w2, w3, b1, b2, b3, reach]) | (with_reducible refine condC_or (fun hq => ?_) (fun hq => ?_) <;> (try simp at hq) <;> simp -implicitDefEqProofs [*, downTo, hw, w1, w2, w3, b1, b2, b3, reach]) | (with_reducible refine condC_not (fun hq => ?_) (fun hq => ?_) <;> (try simp at hq) <;> simp -implicitDefEqProofs [*, downTo, hw, w1, w2, w3, b1, b2, b3, reach]) | (with_reducible refine condC_split (fun hq => ?_) (fun hq => ?_) <;> (try simp at hq) <;> simp -implicitDefEqProofs [*, downTo, hw, w1, w2, w3, b1, b2, b3, reach]) | (refine appK2_if (by omega) ?_; simp -implicitDefEqProofs [*, downTo, hw, w1, w2, w3, b1, b2, b3, reach]) | (refine pureV_if (by omega) ?_; simp -implicitDefEqProofs [*, downTo, hw, w1, w2, w3, b1, b2, b3, reach]))
  · obtain ⟨c1, c2, c3⟩ := bad { nodeT with view := { nodeT.view with passive := [100] } } (by decide +kernel) (by unfold Node.small View.small cap16 cap; simp [nodeT]; try omega)
    clear bad
    simp [nodeT, itT, nodeD, Node.cells, peersD, intsD, itemsD, toldsD, Peer.row, irow, Item.row, Told.row, msgD, Msg.row, zeroItem] at c1 c2 c3
    simp -implicitDefEqProofs [c_gimmallaw21_AskForms, hw, w1, w2, w3]
    repeat' (first | (refine callThen_of (by first | exact law21_awake | exact g0 | exact c1 | exact den_nrm (c1) | exact den_nrm (by simpa using c1) | exact c2 | exact den_nrm (c2) | exact den_nrm (by simpa using c2) | exact c3 | exact den_nrm (c3) | exact den_nrm (by simpa using c3) | exact d4 | exact den_nrm (d4) | exact den_nrm (by simpa using d4) | exact d5 | exact den_nrm (d5) | exact den_nrm (by simpa using d5) | exact d6 | exact den_nrm (d6) | exact den_nrm (by simpa using d6) | exact d7 | exact den_nrm (d7) | exact den_nrm (by simpa using d7) | exact g2 | exact den_nrm (g2) | exact den_nrm (by simpa using g2) | exact law_Num _ | exact i1) ?_; simp -implicitDefEqProofs [*, downTo, hw, w1, w2, w3, b1, b2, b3, reach]) | (with_reducible refine gOps_dec (fun _ => ?_) (fun _ => ?_) <;> simp -implicitDefEqProofs [*, downTo, hw, w1, w2, w3, b1, b2, b3, reach]) | (with_reducible refine gOps_ndec (fun _ => ?_) (fun _ => ?_) <;> simp -implicitDefEqProofs [*, downTo, hw, w1, w2, w3, b1, b2, b3, reach]) | (with_reducible refine gOps_and (fun hq => ?_) (fun hq => ?_) <;> (try simp at hq) <;> simp -implicitDefEqProofs [*, downTo, hw, w1, w2, w3, b1, b2, b3, reach]) | (with_reducible refine gOps_or (fun hq => ?_) (fun hq => ?_) <;> (try simp at hq) <;> simp -implicitDefEqProofs [*, downTo, hw, w1, w2, w3, b1, b2, b3, reach]) | (with_reducible refine gOps_not (fun hq => ?_) (fun hq => ?_) <;> (try simp at hq) <;> simp -implicitDefEqProofs [*, downTo, hw, w1, w2, w3, b1, b2, b3, reach]) | (with_reducible refine gOps_split (fun hq => ?_) (fun hq => ?_) <;> (try simp at hq) <;> simp -implicitDefEqProofs [*, downTo, hw, w1, w2, w3, b1, b2, b3, reach]) | (with_reducible refine condC_dec (fun _ => ?_) (fun _ => ?_) <;> simp -implicitDefEqProofs [*, downTo, hw, w1, w2, w3, b1, b2, b3, reach]) | (with_reducible refine condC_ndec (fun _ => ?_) (fun _ => ?_) <;> simp -implicitDefEqProofs [*, downTo, hw, w1, w2, w3, b1, b2, b3, reach]) | (with_reducible refine condC_and (fun hq => ?_) (fun hq => ?_) <;> (try simp at hq) <;> simp -implicitDefEqProofs [*, downTo, hw, w1, w2, w3, b1, b2, b3, reach]) | (with_reducible refine condC_or (fun hq => ?_) (fun hq => ?_) <;> (try simp at hq) <;> simp -implicitDefEqProofs [*, downTo, hw, w1, w2, w3, b1, b2, b3, reach]) | (with_reducible refine condC_not (fun hq => ?_) (fun hq => ?_) <;> (try simp at hq) <;> simp -implicitDefEqProofs [*, downTo, hw, w1, w2, w3, b1, b2, b3, reach]) | (with_reducible refine condC_split (fun hq => ?_) (fun hq => ?_) <;> (try simp at hq) <;> simp -implicitDefEqProofs [*, downTo, hw, w1, w2, w3, b1, b2, b3, reach]) | (refine appK2_if (by omega) ?_; simp -implicitDefEqProofs [*, downTo, hw, w1, w2, w3, b1, b2, b3, reach]) | (refine pureV_if (by omega) ?_; simp -implicitDefEqProofs [*, downTo, hw, w1, w2, w3, b1, b2, b3, reach]))
  · obtain ⟨c1, c2, c3⟩ := bad { nodeT with log := List.replicate (64 + (1 + x % 1024)).toNat ⟨0, false, 0⟩ } (by simp [nodeUp, nodeMay]; omega) (by unfold Node.small View.small cap16 cap; simp [nodeT]; try omega)
    clear bad
    simp [nodeT, itT, nodeD, Node.cells, peersD, intsD, itemsD, toldsD, Peer.row, irow, Item.row, Told.row, msgD, Msg.row, zeroItem] at c1 c2 c3
    have hfl : (List.replicate (64 + (1 + x % 1024)).toNat [D.int .i64 0, D.bool false, D.int .i64 0]).flatMap (fun r => idsL r) = [] := by simp [List.flatMap_replicate, idsL]
    simp -implicitDefEqProofs [c_gimmallaw21_AskForms, hw, w1, w2, w3, hfl]
    repeat' (first | (refine callThen_of (by first | exact law21_awake | exact g0 | exact c1 | exact den_nrm (c1) | exact den_nrm (by simpa using c1) | exact c2 | exact den_nrm (c2) | exact den_nrm (by simpa using c2) | exact c3 | exact den_nrm (c3) | exact den_nrm (by simpa using c3) | exact d4 | exact den_nrm (d4) | exact den_nrm (by simpa using d4) | exact d5 | exact den_nrm (d5) | exact den_nrm (by simpa using d5) | exact d6 | exact den_nrm (d6) | exact den_nrm (by simpa using d6) | exact d7 | exact den_nrm (d7) | exact den_nrm (by simpa using d7) | exact g2 | exact den_nrm (g2) | exact den_nrm (by simpa using g2) | exact law_Num _ | exact i1) ?_; simp -implicitDefEqProofs [*, downTo, hfl, hw, w1, w2, w3, b1, b2, b3, reach]) | (with_reducible refine gOps_dec (fun _ => ?_) (fun _ => ?_) <;> simp -implicitDefEqProofs [*, downTo, hfl, hw, w1, w2, w3, b1, b2, b3, reach]) | (with_reducible refine gOps_ndec (fun _ => ?_) (fun _ => ?_) <;> simp -implicitDefEqProofs [*, downTo, hfl, hw, w1, w2, w3, b1, b2, b3, reach]) | (with_reducible refine gOps_and (fun hq => ?_) (fun hq => ?_) <;> (try simp at hq) <;> simp -implicitDefEqProofs [*, downTo, hfl, hw, w1, w2, w3, b1, b2, b3, reach]) | (with_reducible refine gOps_or (fun hq => ?_) (fun hq => ?_) <;> (try simp at hq) <;> simp -implicitDefEqProofs [*, downTo, hfl, hw, w1, w2, w3, b1, b2, b3, reach]) | (with_reducible refine gOps_not (fun hq => ?_) (fun hq => ?_) <;> (try simp at hq) <;> simp -implicitDefEqProofs [*, downTo, hfl, hw, w1, w2, w3, b1, b2, b3, reach]) | (with_reducible refine gOps_split (fun hq => ?_) (fun hq => ?_) <;> (try simp at hq) <;> simp -implicitDefEqProofs [*, downTo, hfl, hw, w1, w2, w3, b1, b2, b3, reach]) | (with_reducible refine condC_dec (fun _ => ?_) (fun _ => ?_) <;> simp -implicitDefEqProofs [*, downTo, hfl, hw, w1, w2, w3, b1, b2, b3, reach]) | (with_reducible refine condC_ndec (fun _ => ?_) (fun _ => ?_) <;> simp -implicitDefEqProofs [*, downTo, hfl, hw, w1, w2, w3, b1, b2, b3, reach]) | (with_reducible refine condC_and (fun hq => ?_) (fun hq => ?_) <;> (try simp at hq) <;> simp -implicitDefEqProofs [*, downTo, hfl, hw, w1, w2, w3, b1, b2, b3, reach]) | (with_reducible refine condC_or (fun hq => ?_) (fun hq => ?_) <;> (try simp at hq) <;> simp -implicitDefEqProofs [*, downTo, hfl, hw, w1, w2, w3, b1, b2, b3, reach]) | (with_reducible refine condC_not (fun hq => ?_) (fun hq => ?_) <;> (try simp at hq) <;> simp -implicitDefEqProofs [*, downTo, hfl, hw, w1, w2, w3, b1, b2, b3, reach]) | (with_reducible refine condC_split (fun hq => ?_) (fun hq => ?_) <;> (try simp at hq) <;> simp -implicitDefEqProofs [*, downTo, hfl, hw, w1, w2, w3, b1, b2, b3, reach]) | (refine appK2_if (by omega) ?_; simp -implicitDefEqProofs [*, downTo, hfl, hw, w1, w2, w3, b1, b2, b3, reach]) | (refine pureV_if (by omega) ?_; simp -implicitDefEqProofs [*, downTo, hfl, hw, w1, w2, w3, b1, b2, b3, reach]))
end Go.AM
/- AM: chapter 21's statements: AskThere; messages handed in. -/
namespace Go.AM
set_option linter.unusedSimpArgs false
set_option linter.unusedVariables false
set_option maxRecDepth 8000
set_option maxHeartbeats 0
def Msg.tame (m : Msg) : Prop := m.ids.length * 8 ≤ 140737488351232 ∧ (∀ x ∈ m.ids, in64 x) ∧ in64 m.kind ∧ in64 m.from_ ∧ in64 m.to ∧ in64 m.key ∧ m.item.tame
theorem Msg.tame.ids {m : Msg} (h : m.tame) : m.ids.length ≤ cap := by
  have := h.1
  unfold cap
  omega
end Go.AM
