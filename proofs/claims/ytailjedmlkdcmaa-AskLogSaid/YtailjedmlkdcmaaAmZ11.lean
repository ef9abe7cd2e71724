/- What the proof of this claim stands on, part 11. -/
import Derived.Test.YtailjedmlkdcmaaAmZ10
/- AM: contracts: asking, answering, being told; the document's. -/
namespace Go.AM
set_option linter.unusedSimpArgs false
set_option linter.unusedVariables false
set_option maxRecDepth 8000
set_option maxHeartbeats 0
def noteD (x : Node) (pre xs : List Told) : D := .agg [.bool x.up, .int .i64 x.view.id, .ref 0 0 x.view.peers.length, .ref 1 0 x.view.passive.length, .ref 2 0 x.items.length, .ref 3 pre.length xs.length]
def noteB (x : Node) (pre xs : List Told) : List Blk := [⟨x.view.peers.map Peer.row, 2, .mut⟩, ⟨x.view.passive.map irow, 1, .mut⟩, ⟨x.items.map Item.row, 5, .mut⟩, ⟨(pre ++ xs).map Told.row, 3, .mut⟩]
def logPre (x : Node) (t : Told) : List Told := (x.log ++ [t]).take (x.log.length + 1 - 64)
def logOf (x : Node) (t : Told) : List Told := (x.log ++ [t]).drop (x.log.length + 1 - 64)
theorem log_len (x : Node) (t : Told) : (logPre x t).length = x.log.length + 1 - 64 ∧ (logOf x t).length = x.log.length + 1 - (x.log.length + 1 - 64) ∧ logPre x t ++ logOf x t = x.log ++ [t] := by
  unfold logPre logOf
  refine ⟨by simp; omega, by simp, List.take_append_drop _ _⟩
theorem ask_note' (x : Node) (key : Int) (i : Item) (has : Bool) (hs : x.small) (hl : x.log.length ≤ 64) : Den PP 50 [nodeD x, .int .i64 key, .agg i.row, .bool has] [] (noteD x (logPre x (toldOf key i has)) (logOf x (toldOf key i has))) (noteB x (logPre x (toldOf key i has)) (logOf x (toldOf key i has))) := by
  have := ask_note x key i has hs hl
  obtain ⟨h1, h2, h3⟩ := log_len x (toldOf key i has)
  unfold noteD noteB
  rw [h1, h2, h3]
  exact this
def toB (x : Node) (m : Msg) (kind : Int) : Bool := nodeUp x && (msgMay m && (decide (m.kind = kind) && decide (m.to = x.view.id)))
theorem ask_to (x : Node) (m : Msg) (kind : Int) (hs : x.small) (hl : m.ids.length ≤ cap) : Den PP 56 [.mem x.cells, .mem m.row, .int .i64 kind] [] (.bool (toB x m kind)) [] := by
  have c1 := node_Up x hs
  have c2 := msg_May m hl
  unfold toB
  generalize nodeUp x = U at *
  generalize msgMay m = M at *
  simp only [nodeD, Node.cells, peersD, intsD, itemsD, toldsD, Item.row, msgD, Msg.row] at c1 c2 ⊢
  refine den_of [] [] is_ask_to ?_
  cases U <;> cases M
  all_goals
    simp -implicitDefEqProofs [c_ask_to]
    repeat' (first | (refine callThen_of (by first | exact c1 | exact c2) ?_; simp -implicitDefEqProofs [*]) | (with_reducible refine gOps_dec (fun _ => ?_) (fun _ => ?_) <;> simp -implicitDefEqProofs [*]) | (with_reducible refine gOps_ndec (fun _ => ?_) (fun _ => ?_) <;> simp -implicitDefEqProofs [*]) | (with_reducible refine gOps_and (fun hq => ?_) (fun hq => ?_) <;> (try simp at hq) <;> simp -implicitDefEqProofs [*]) | (with_reducible refine gOps_or (fun hq => ?_) (fun hq => ?_) <;> (try simp at hq) <;> simp -implicitDefEqProofs [*]) | (with_reducible refine gOps_not (fun hq => ?_) (fun hq => ?_) <;> (try simp at hq) <;> simp -implicitDefEqProofs [*]) | (with_reducible refine gOps_split (fun hq => ?_) (fun hq => ?_) <;> (try simp at hq) <;> simp -implicitDefEqProofs [*]) | (with_reducible refine condC_dec (fun _ => ?_) (fun _ => ?_) <;> simp -implicitDefEqProofs [*]) | (with_reducible refine condC_ndec (fun _ => ?_) (fun _ => ?_) <;> simp -implicitDefEqProofs [*]) | (with_reducible refine condC_and (fun hq => ?_) (fun hq => ?_) <;> (try simp at hq) <;> simp -implicitDefEqProofs [*]) | (with_reducible refine condC_or (fun hq => ?_) (fun hq => ?_) <;> (try simp at hq) <;> simp -implicitDefEqProofs [*]) | (with_reducible refine condC_not (fun hq => ?_) (fun hq => ?_) <;> (try simp at hq) <;> simp -implicitDefEqProofs [*]) | (with_reducible refine condC_split (fun hq => ?_) (fun hq => ?_) <;> (try simp at hq) <;> simp -implicitDefEqProofs [*]) | (refine appK2_if (by omega) ?_; simp -implicitDefEqProofs [*]) | (refine pureV_if (by omega) ?_; simp -implicitDefEqProofs [*]))
  all_goals (first | (simp [*]; done) | grind)
def askOf (x : Node) (to key : Int) : Msg := ⟨2, x.view.id, to, [], key, zeroItem, false⟩
def gotT (x : Node) (key : Int) : Told := toldOf key (getR x.items key).1 (getR x.items key).2
theorem nodeUp_log {x : Node} (h : nodeUp x = true) : x.log.length ≤ 64 := (nodeUp_parts h).2.2.2.1
theorem ask_Get_no (x : Node) (key : Int) (hs : x.small) (h : (nodeUp x && place key) = false) : Den PP 16 [nodeD x, .int .i64 key] [] (.tup [.agg [.bool false, .int .i64 0, .nil, .nil, .nil, .nil], .ref 0 0 0, .int .i64 2100]) [⟨[], 11, .mut⟩] := by
  have c1 := node_Up x hs
  have c2 := ring_Place key
  generalize nodeUp x = U at *
  generalize place key = M at *
  simp only [nodeD, Node.cells, peersD, intsD, itemsD, toldsD, Item.row] at c1 c2 ⊢
  refine den_of [] [] is_ask_Get ?_
  cases U <;> cases M
  all_goals
    simp at h
  all_goals
    simp -implicitDefEqProofs [c_ask_Get]
    repeat' (first | (refine callThen_of (by first | exact c1 | exact c2) ?_; simp -implicitDefEqProofs [*]) | (with_reducible refine gOps_dec (fun _ => ?_) (fun _ => ?_) <;> simp -implicitDefEqProofs [*]) | (with_reducible refine gOps_ndec (fun _ => ?_) (fun _ => ?_) <;> simp -implicitDefEqProofs [*]) | (with_reducible refine gOps_and (fun hq => ?_) (fun hq => ?_) <;> (try simp at hq) <;> simp -implicitDefEqProofs [*]) | (with_reducible refine gOps_or (fun hq => ?_) (fun hq => ?_) <;> (try simp at hq) <;> simp -implicitDefEqProofs [*]) | (with_reducible refine gOps_not (fun hq => ?_) (fun hq => ?_) <;> (try simp at hq) <;> simp -implicitDefEqProofs [*]) | (with_reducible refine gOps_split (fun hq => ?_) (fun hq => ?_) <;> (try simp at hq) <;> simp -implicitDefEqProofs [*]) | (with_reducible refine condC_dec (fun _ => ?_) (fun _ => ?_) <;> simp -implicitDefEqProofs [*]) | (with_reducible refine condC_ndec (fun _ => ?_) (fun _ => ?_) <;> simp -implicitDefEqProofs [*]) | (with_reducible refine condC_and (fun hq => ?_) (fun hq => ?_) <;> (try simp at hq) <;> simp -implicitDefEqProofs [*]) | (with_reducible refine condC_or (fun hq => ?_) (fun hq => ?_) <;> (try simp at hq) <;> simp -implicitDefEqProofs [*]) | (with_reducible refine condC_not (fun hq => ?_) (fun hq => ?_) <;> (try simp at hq) <;> simp -implicitDefEqProofs [*]) | (with_reducible refine condC_split (fun hq => ?_) (fun hq => ?_) <;> (try simp at hq) <;> simp -implicitDefEqProofs [*]) | (refine appK2_if (by omega) ?_; simp -implicitDefEqProofs [*]) | (refine pureV_if (by omega) ?_; simp -implicitDefEqProofs [*]))
theorem ask_Get_own (x : Node) (key : Int) (hs : x.small) (h1 : nodeUp x = true) (h2 : place key = true) (h3 : (ownerV x.view key).1 = x.view.id) : Den PP 16 [nodeD x, .int .i64 key] [] (.tup [noteD x (logPre x (gotT x key)) (logOf x (gotT x key)), .ref 4 0 0, .int .i64 0]) (noteB x (logPre x (gotT x key)) (logOf x (gotT x key)) ++ [⟨[], 11, .mut⟩]) := by
  have c1 := node_Up x hs
  have c2 := ring_Place key
  have c3 := view_Owner x.view key hs.1
  have c4 := store_Get x.items key (by have := hs.2.1; unfold cap16; omega)
  have c5 := ask_note' x key (getR x.items key).1 (getR x.items key).2 hs (nodeUp_log h1)
  rw [h1] at c1
  rw [h2] at c2
  unfold gotT
  generalize getR x.items key = r at *
  obtain ⟨⟨ik, ic, iw, iv, ig⟩, g2⟩ := r
  generalize hlp : logPre x (toldOf key _ _) = pre at *
  generalize hlo : logOf x (toldOf key _ _) = xs at *
  clear hlp hlo
  generalize ownerV x.view key = o at *
  obtain ⟨o1, o2⟩ := o
  simp only at h3
  subst h3
  simp only [nodeD, Node.cells, viewD, View.cells, peersD, intsD, itemsD, toldsD, Item.row, noteD, noteB, pairD] at c1 c2 c3 c4 c5 ⊢
  clear h1 h2
  refine den_of [45] [] is_ask_Get ?_
  simp -implicitDefEqProofs [c_ask_Get]
  repeat' (first | (refine callThen_of (by first | exact c1 | exact c2 | exact c3 | exact c4 | exact c5) ?_; simp -implicitDefEqProofs [*, downTo]) | (with_reducible refine gOps_dec (fun _ => ?_) (fun _ => ?_) <;> simp -implicitDefEqProofs [*, downTo]) | (with_reducible refine gOps_ndec (fun _ => ?_) (fun _ => ?_) <;> simp -implicitDefEqProofs [*, downTo]) | (with_reducible refine gOps_and (fun hq => ?_) (fun hq => ?_) <;> (try simp at hq) <;> simp -implicitDefEqProofs [*, downTo]) | (with_reducible refine gOps_or (fun hq => ?_) (fun hq => ?_) <;> (try simp at hq) <;> simp -implicitDefEqProofs [*, downTo]) | (with_reducible refine gOps_not (fun hq => ?_) (fun hq => ?_) <;> (try simp at hq) <;> simp -implicitDefEqProofs [*, downTo]) | (with_reducible refine gOps_split (fun hq => ?_) (fun hq => ?_) <;> (try simp at hq) <;> simp -implicitDefEqProofs [*, downTo]) | (with_reducible refine condC_dec (fun _ => ?_) (fun _ => ?_) <;> simp -implicitDefEqProofs [*, downTo]) | (with_reducible refine condC_ndec (fun _ => ?_) (fun _ => ?_) <;> simp -implicitDefEqProofs [*, downTo]) | (with_reducible refine condC_and (fun hq => ?_) (fun hq => ?_) <;> (try simp at hq) <;> simp -implicitDefEqProofs [*, downTo]) | (with_reducible refine condC_or (fun hq => ?_) (fun hq => ?_) <;> (try simp at hq) <;> simp -implicitDefEqProofs [*, downTo]) | (with_reducible refine condC_not (fun hq => ?_) (fun hq => ?_) <;> (try simp at hq) <;> simp -implicitDefEqProofs [*, downTo]) | (with_reducible refine condC_split (fun hq => ?_) (fun hq => ?_) <;> (try simp at hq) <;> simp -implicitDefEqProofs [*, downTo]) | (refine appK2_if (by omega) ?_; simp -implicitDefEqProofs [*, downTo]) | (refine pureV_if (by omega) ?_; simp -implicitDefEqProofs [*, downTo]))
theorem ask_Get_far (x : Node) (key : Int) (hs : x.small) (h1 : nodeUp x = true) (h2 : place key = true) (h3 : (ownerV x.view key).1 ≠ x.view.id) : Den PP 16 [nodeD x, .int .i64 key] [] (.tup [copyD x, .ref 4 0 1, .int .i64 0]) (nodeB x ++ [⟨[askOf x (ownerV x.view key).1 key].map Msg.row0, 11, .mut⟩]) := by
  have c1 := node_Up x hs
  have c2 := ring_Place key
  have c3 := view_Owner x.view key hs.1
  have c5 := node_Copy x hs
  rw [h1] at c1
  rw [h2] at c2
  generalize ownerV x.view key = o at *
  obtain ⟨o1, o2⟩ := o
  simp only at h3
  simp only [nodeD, Node.cells, viewD, View.cells, peersD, intsD, itemsD, toldsD, Item.row, copyD, nodeB, pairD, askOf, zeroItem, Msg.row0, List.map_cons, List.map_nil] at c1 c2 c3 c5 ⊢
  clear h1 h2
  refine den_of [47] [] is_ask_Get ?_
  simp -implicitDefEqProofs [c_ask_Get]
  repeat' (first | (refine callThen_of (by first | exact c1 | exact c2 | exact c3) ?_; simp -implicitDefEqProofs [*, downTo, h3]) | (with_reducible refine gOps_dec (fun _ => ?_) (fun _ => ?_) <;> simp -implicitDefEqProofs [*, downTo, h3]) | (with_reducible refine gOps_ndec (fun _ => ?_) (fun _ => ?_) <;> simp -implicitDefEqProofs [*, downTo, h3]) | (with_reducible refine gOps_and (fun hq => ?_) (fun hq => ?_) <;> (try simp at hq) <;> simp -implicitDefEqProofs [*, downTo, h3]) | (with_reducible refine gOps_or (fun hq => ?_) (fun hq => ?_) <;> (try simp at hq) <;> simp -implicitDefEqProofs [*, downTo, h3]) | (with_reducible refine gOps_not (fun hq => ?_) (fun hq => ?_) <;> (try simp at hq) <;> simp -implicitDefEqProofs [*, downTo, h3]) | (with_reducible refine gOps_split (fun hq => ?_) (fun hq => ?_) <;> (try simp at hq) <;> simp -implicitDefEqProofs [*, downTo, h3]) | (with_reducible refine condC_dec (fun _ => ?_) (fun _ => ?_) <;> simp -implicitDefEqProofs [*, downTo, h3]) | (with_reducible refine condC_ndec (fun _ => ?_) (fun _ => ?_) <;> simp -implicitDefEqProofs [*, downTo, h3]) | (with_reducible refine condC_and (fun hq => ?_) (fun hq => ?_) <;> (try simp at hq) <;> simp -implicitDefEqProofs [*, downTo, h3]) | (with_reducible refine condC_or (fun hq => ?_) (fun hq => ?_) <;> (try simp at hq) <;> simp -implicitDefEqProofs [*, downTo, h3]) | (with_reducible refine condC_not (fun hq => ?_) (fun hq => ?_) <;> (try simp at hq) <;> simp -implicitDefEqProofs [*, downTo, h3]) | (with_reducible refine condC_split (fun hq => ?_) (fun hq => ?_) <;> (try simp at hq) <;> simp -implicitDefEqProofs [*, downTo, h3]) | (refine appK2_if (by omega) ?_; simp -implicitDefEqProofs [*, downTo, h3]) | (refine pureV_if (by omega) ?_; simp -implicitDefEqProofs [*, downTo, h3]))
  repeat' apply And.intro
  all_goals repeat' (first | (refine callThen_of (by first | exact c5) ?_; simp -implicitDefEqProofs [*, downTo, h3]) | (with_reducible refine gOps_dec (fun _ => ?_) (fun _ => ?_) <;> simp -implicitDefEqProofs [*, downTo, h3]) | (with_reducible refine gOps_ndec (fun _ => ?_) (fun _ => ?_) <;> simp -implicitDefEqProofs [*, downTo, h3]) | (with_reducible refine gOps_and (fun hq => ?_) (fun hq => ?_) <;> (try simp at hq) <;> simp -implicitDefEqProofs [*, downTo, h3]) | (with_reducible refine gOps_or (fun hq => ?_) (fun hq => ?_) <;> (try simp at hq) <;> simp -implicitDefEqProofs [*, downTo, h3]) | (with_reducible refine gOps_not (fun hq => ?_) (fun hq => ?_) <;> (try simp at hq) <;> simp -implicitDefEqProofs [*, downTo, h3]) | (with_reducible refine gOps_split (fun hq => ?_) (fun hq => ?_) <;> (try simp at hq) <;> simp -implicitDefEqProofs [*, downTo, h3]) | (with_reducible refine condC_dec (fun _ => ?_) (fun _ => ?_) <;> simp -implicitDefEqProofs [*, downTo, h3]) | (with_reducible refine condC_ndec (fun _ => ?_) (fun _ => ?_) <;> simp -implicitDefEqProofs [*, downTo, h3]) | (with_reducible refine condC_and (fun hq => ?_) (fun hq => ?_) <;> (try simp at hq) <;> simp -implicitDefEqProofs [*, downTo, h3]) | (with_reducible refine condC_or (fun hq => ?_) (fun hq => ?_) <;> (try simp at hq) <;> simp -implicitDefEqProofs [*, downTo, h3]) | (with_reducible refine condC_not (fun hq => ?_) (fun hq => ?_) <;> (try simp at hq) <;> simp -implicitDefEqProofs [*, downTo, h3]) | (with_reducible refine condC_split (fun hq => ?_) (fun hq => ?_) <;> (try simp at hq) <;> simp -implicitDefEqProofs [*, downTo, h3]) | (refine appK2_if (by omega) ?_; simp -implicitDefEqProofs [*, downTo, h3]) | (refine pureV_if (by omega) ?_; simp -implicitDefEqProofs [*, downTo, h3]))
def tellOf (x : Node) (m : Msg) : Msg := ⟨3, x.view.id, m.from_, [], m.key, (getR x.items m.key).1, (getR x.items m.key).2⟩
theorem ask_Answer_no (x : Node) (m : Msg) (hs : x.small) (hl : m.ids.length ≤ cap) (h : toB x m 2 = false) : Den PP 18 [nodeD x, msgD m] [] (.tup [.ref 0 0 0, .int .i64 2100]) [⟨[], 11, .mut⟩] := by
  have c1 := ask_to x m 2 hs hl
  rw [h] at c1
  simp only [nodeD, Node.cells, peersD, intsD, itemsD, toldsD, Item.row, msgD, Msg.row] at c1 ⊢
  refine den_of [] [] is_ask_Answer ?_
  simp -implicitDefEqProofs [c_ask_Answer]
  repeat' (first | (refine callThen_of (by first | exact c1) ?_; simp -implicitDefEqProofs [*]) | (with_reducible refine gOps_dec (fun _ => ?_) (fun _ => ?_) <;> simp -implicitDefEqProofs [*]) | (with_reducible refine gOps_ndec (fun _ => ?_) (fun _ => ?_) <;> simp -implicitDefEqProofs [*]) | (with_reducible refine gOps_and (fun hq => ?_) (fun hq => ?_) <;> (try simp at hq) <;> simp -implicitDefEqProofs [*]) | (with_reducible refine gOps_or (fun hq => ?_) (fun hq => ?_) <;> (try simp at hq) <;> simp -implicitDefEqProofs [*]) | (with_reducible refine gOps_not (fun hq => ?_) (fun hq => ?_) <;> (try simp at hq) <;> simp -implicitDefEqProofs [*]) | (with_reducible refine gOps_split (fun hq => ?_) (fun hq => ?_) <;> (try simp at hq) <;> simp -implicitDefEqProofs [*]) | (with_reducible refine condC_dec (fun _ => ?_) (fun _ => ?_) <;> simp -implicitDefEqProofs [*]) | (with_reducible refine condC_ndec (fun _ => ?_) (fun _ => ?_) <;> simp -implicitDefEqProofs [*]) | (with_reducible refine condC_and (fun hq => ?_) (fun hq => ?_) <;> (try simp at hq) <;> simp -implicitDefEqProofs [*]) | (with_reducible refine condC_or (fun hq => ?_) (fun hq => ?_) <;> (try simp at hq) <;> simp -implicitDefEqProofs [*]) | (with_reducible refine condC_not (fun hq => ?_) (fun hq => ?_) <;> (try simp at hq) <;> simp -implicitDefEqProofs [*]) | (with_reducible refine condC_split (fun hq => ?_) (fun hq => ?_) <;> (try simp at hq) <;> simp -implicitDefEqProofs [*]) | (refine appK2_if (by omega) ?_; simp -implicitDefEqProofs [*]) | (refine pureV_if (by omega) ?_; simp -implicitDefEqProofs [*]))
theorem ask_Answer_ok (x : Node) (m : Msg) (hs : x.small) (hl : m.ids.length ≤ cap) (h : toB x m 2 = true) : Den PP 18 [nodeD x, msgD m] [] (.tup [.ref 0 0 1, .int .i64 0]) [⟨[tellOf x m].map Msg.row0, 11, .mut⟩] := by
  have c1 := ask_to x m 2 hs hl
  have c4 := store_Get x.items m.key (by have := hs.2.1; unfold cap16; omega)
  rw [h] at c1
  unfold tellOf
  generalize getR x.items m.key = r at *
  obtain ⟨⟨ik, ic, iw, iv, ig⟩, g2⟩ := r
  simp only [nodeD, Node.cells, peersD, intsD, itemsD, toldsD, Item.row, msgD, Msg.row, Msg.row0, List.map_cons, List.map_nil] at c1 c4 ⊢
  clear h
  refine den_of [] [] is_ask_Answer ?_
  simp -implicitDefEqProofs [c_ask_Answer]
  repeat' (first | (refine callThen_of (by first | exact c1 | exact c4) ?_; simp -implicitDefEqProofs [*, downTo]) | (with_reducible refine gOps_dec (fun _ => ?_) (fun _ => ?_) <;> simp -implicitDefEqProofs [*, downTo]) | (with_reducible refine gOps_ndec (fun _ => ?_) (fun _ => ?_) <;> simp -implicitDefEqProofs [*, downTo]) | (with_reducible refine gOps_and (fun hq => ?_) (fun hq => ?_) <;> (try simp at hq) <;> simp -implicitDefEqProofs [*, downTo]) | (with_reducible refine gOps_or (fun hq => ?_) (fun hq => ?_) <;> (try simp at hq) <;> simp -implicitDefEqProofs [*, downTo]) | (with_reducible refine gOps_not (fun hq => ?_) (fun hq => ?_) <;> (try simp at hq) <;> simp -implicitDefEqProofs [*, downTo]) | (with_reducible refine gOps_split (fun hq => ?_) (fun hq => ?_) <;> (try simp at hq) <;> simp -implicitDefEqProofs [*, downTo]) | (with_reducible refine condC_dec (fun _ => ?_) (fun _ => ?_) <;> simp -implicitDefEqProofs [*, downTo]) | (with_reducible refine condC_ndec (fun _ => ?_) (fun _ => ?_) <;> simp -implicitDefEqProofs [*, downTo]) | (with_reducible refine condC_and (fun hq => ?_) (fun hq => ?_) <;> (try simp at hq) <;> simp -implicitDefEqProofs [*, downTo]) | (with_reducible refine condC_or (fun hq => ?_) (fun hq => ?_) <;> (try simp at hq) <;> simp -implicitDefEqProofs [*, downTo]) | (with_reducible refine condC_not (fun hq => ?_) (fun hq => ?_) <;> (try simp at hq) <;> simp -implicitDefEqProofs [*, downTo]) | (with_reducible refine condC_split (fun hq => ?_) (fun hq => ?_) <;> (try simp at hq) <;> simp -implicitDefEqProofs [*, downTo]) | (refine appK2_if (by omega) ?_; simp -implicitDefEqProofs [*, downTo]) | (refine pureV_if (by omega) ?_; simp -implicitDefEqProofs [*, downTo]))
  repeat' apply And.intro
  all_goals repeat' (first | (with_reducible refine gOps_dec (fun _ => ?_) (fun _ => ?_) <;> simp -implicitDefEqProofs [*, downTo]) | (with_reducible refine gOps_ndec (fun _ => ?_) (fun _ => ?_) <;> simp -implicitDefEqProofs [*, downTo]) | (with_reducible refine gOps_and (fun hq => ?_) (fun hq => ?_) <;> (try simp at hq) <;> simp -implicitDefEqProofs [*, downTo]) | (with_reducible refine gOps_or (fun hq => ?_) (fun hq => ?_) <;> (try simp at hq) <;> simp -implicitDefEqProofs [*, downTo]) | (with_reducible refine gOps_not (fun hq => ?_) (fun hq => ?_) <;> (try simp at hq) <;> simp -implicitDefEqProofs [*, downTo]) | (with_reducible refine gOps_split (fun hq => ?_) (fun hq => ?_) <;> (try simp at hq) <;> simp -implicitDefEqProofs [*, downTo]) | (with_reducible refine condC_dec (fun _ => ?_) (fun _ => ?_) <;> simp -implicitDefEqProofs [*, downTo]) | (with_reducible refine condC_ndec (fun _ => ?_) (fun _ => ?_) <;> simp -implicitDefEqProofs [*, downTo]) | (with_reducible refine condC_and (fun hq => ?_) (fun hq => ?_) <;> (try simp at hq) <;> simp -implicitDefEqProofs [*, downTo]) | (with_reducible refine condC_or (fun hq => ?_) (fun hq => ?_) <;> (try simp at hq) <;> simp -implicitDefEqProofs [*, downTo]) | (with_reducible refine condC_not (fun hq => ?_) (fun hq => ?_) <;> (try simp at hq) <;> simp -implicitDefEqProofs [*, downTo]) | (with_reducible refine condC_split (fun hq => ?_) (fun hq => ?_) <;> (try simp at hq) <;> simp -implicitDefEqProofs [*, downTo]) | (refine appK2_if (by omega) ?_; simp -implicitDefEqProofs [*, downTo]) | (refine pureV_if (by omega) ?_; simp -implicitDefEqProofs [*, downTo]))
def mT (m : Msg) : Told := toldOf m.key m.item m.has
theorem ask_Told_ok (x : Node) (m : Msg) (hs : x.small) (hl : m.ids.length ≤ cap) (h : toB x m 3 = true) : Den PP 20 [nodeD x, msgD m] [] (.tup [noteD x (logPre x (mT m)) (logOf x (mT m)), .int .i64 0]) (noteB x (logPre x (mT m)) (logOf x (mT m))) := by
  have c1 := ask_to x m 3 hs hl
  rw [h] at c1
  unfold toB at h
  simp only [Bool.and_eq_true, decide_eq_true_eq] at h
  have c5 := ask_note' x m.key m.item m.has hs (nodeUp_log h.1)
  clear h
  unfold mT
  generalize logPre x (toldOf m.key m.item m.has) = pre at *
  generalize logOf x (toldOf m.key m.item m.has) = xs at *
  simp only [nodeD, Node.cells, peersD, intsD, itemsD, toldsD, Item.row, msgD, Msg.row, noteD, noteB] at c1 c5 ⊢
  refine den_of [16] [] is_ask_Told ?_
  simp -implicitDefEqProofs [c_ask_Told]
  repeat' (first | (refine callThen_of (by first | exact c1 | exact c5) ?_; simp -implicitDefEqProofs [*, downTo]) | (with_reducible refine gOps_dec (fun _ => ?_) (fun _ => ?_) <;> simp -implicitDefEqProofs [*, downTo]) | (with_reducible refine gOps_ndec (fun _ => ?_) (fun _ => ?_) <;> simp -implicitDefEqProofs [*, downTo]) | (with_reducible refine gOps_and (fun hq => ?_) (fun hq => ?_) <;> (try simp at hq) <;> simp -implicitDefEqProofs [*, downTo]) | (with_reducible refine gOps_or (fun hq => ?_) (fun hq => ?_) <;> (try simp at hq) <;> simp -implicitDefEqProofs [*, downTo]) | (with_reducible refine gOps_not (fun hq => ?_) (fun hq => ?_) <;> (try simp at hq) <;> simp -implicitDefEqProofs [*, downTo]) | (with_reducible refine gOps_split (fun hq => ?_) (fun hq => ?_) <;> (try simp at hq) <;> simp -implicitDefEqProofs [*, downTo]) | (with_reducible refine condC_dec (fun _ => ?_) (fun _ => ?_) <;> simp -implicitDefEqProofs [*, downTo]) | (with_reducible refine condC_ndec (fun _ => ?_) (fun _ => ?_) <;> simp -implicitDefEqProofs [*, downTo]) | (with_reducible refine condC_and (fun hq => ?_) (fun hq => ?_) <;> (try simp at hq) <;> simp -implicitDefEqProofs [*, downTo]) | (with_reducible refine condC_or (fun hq => ?_) (fun hq => ?_) <;> (try simp at hq) <;> simp -implicitDefEqProofs [*, downTo]) | (with_reducible refine condC_not (fun hq => ?_) (fun hq => ?_) <;> (try simp at hq) <;> simp -implicitDefEqProofs [*, downTo]) | (with_reducible refine condC_split (fun hq => ?_) (fun hq => ?_) <;> (try simp at hq) <;> simp -implicitDefEqProofs [*, downTo]) | (refine appK2_if (by omega) ?_; simp -implicitDefEqProofs [*, downTo]) | (refine pureV_if (by omega) ?_; simp -implicitDefEqProofs [*, downTo]))
end Go.AM
/- AM: chapter 21's statements: Asks. -/
namespace Go.AM
set_option linter.unusedSimpArgs false
set_option linter.unusedVariables false
set_option maxRecDepth 8000
set_option maxHeartbeats 0
theorem law21_it (k c : Int) : Den PP 30 [.int .i64 k, .int .i64 c] [] (.agg (itT k c).row) [] := by
  refine den_of [] [] is_gimmallaw21_it ?_
  simp -implicitDefEqProofs [c_gimmallaw21_it, itT, Item.row]
theorem law21_node100 : Den PP 29 [] [] (.agg [.bool true, .int .i64 100, .ref 0 0 3, .ref 1 0 1, .ref 2 0 3, .nil]) [⟨nodeT.view.peers.map Peer.row, 2, .mut⟩, ⟨nodeT.view.passive.map irow, 1, .mut⟩, ⟨nodeT.items.map Item.row, 5, .mut⟩] := by
  have i1 := law21_it 95 1
  have i2 := law21_it 99 3
  have i3 := law21_it 250 2
  simp [itT, Item.row] at i1 i2 i3
  refine den_of [] [] is_gimmallaw21_node100 ?_
  simp -implicitDefEqProofs [c_gimmallaw21_node100, nodeT, Peer.row, irow, Item.row]
  repeat' (first | (refine callThen_of (by first | exact i1 | exact i2 | exact i3) ?_; simp -implicitDefEqProofs [*, nodeT, Peer.row, irow, Item.row]) | (with_reducible refine gOps_dec (fun _ => ?_) (fun _ => ?_) <;> simp -implicitDefEqProofs [*, nodeT, Peer.row, irow, Item.row]) | (with_reducible refine gOps_ndec (fun _ => ?_) (fun _ => ?_) <;> simp -implicitDefEqProofs [*, nodeT, Peer.row, irow, Item.row]) | (with_reducible refine gOps_and (fun hq => ?_) (fun hq => ?_) <;> (try simp at hq) <;> simp -implicitDefEqProofs [*, nodeT, Peer.row, irow, Item.row]) | (with_reducible refine gOps_or (fun hq => ?_) (fun hq => ?_) <;> (try simp at hq) <;> simp -implicitDefEqProofs [*, nodeT, Peer.row, irow, Item.row]) | (with_reducible refine gOps_not (fun hq => ?_) (fun hq => ?_) <;> (try simp at hq) <;> simp -implicitDefEqProofs [*, nodeT, Peer.row, irow, Item.row]) | (with_reducible refine gOps_split (fun hq => ?_) (fun hq => ?_) <;> (try simp at hq) <;> simp -implicitDefEqProofs [*, nodeT, Peer.row, irow, Item.row]) | (with_reducible refine condC_dec (fun _ => ?_) (fun _ => ?_) <;> simp -implicitDefEqProofs [*, nodeT, Peer.row, irow, Item.row]) | (with_reducible refine condC_ndec (fun _ => ?_) (fun _ => ?_) <;> simp -implicitDefEqProofs [*, nodeT, Peer.row, irow, Item.row]) | (with_reducible refine condC_and (fun hq => ?_) (fun hq => ?_) <;> (try simp at hq) <;> simp -implicitDefEqProofs [*, nodeT, Peer.row, irow, Item.row]) | (with_reducible refine condC_or (fun hq => ?_) (fun hq => ?_) <;> (try simp at hq) <;> simp -implicitDefEqProofs [*, nodeT, Peer.row, irow, Item.row]) | (with_reducible refine condC_not (fun hq => ?_) (fun hq => ?_) <;> (try simp at hq) <;> simp -implicitDefEqProofs [*, nodeT, Peer.row, irow, Item.row]) | (with_reducible refine condC_split (fun hq => ?_) (fun hq => ?_) <;> (try simp at hq) <;> simp -implicitDefEqProofs [*, nodeT, Peer.row, irow, Item.row]) | (refine appK2_if (by omega) ?_; simp -implicitDefEqProofs [*, nodeT, Peer.row, irow, Item.row]) | (refine pureV_if (by omega) ?_; simp -implicitDefEqProofs [*, nodeT, Peer.row, irow, Item.row]))
theorem law21_awake : Den PP 28 [] [] (.bool true) [] := by
  have g1 := ask_Get_own nodeT 99 small_nodeT (by decide +kernel) (by decide +kernel) (by decide +kernel)
  have g2 := ask_Get_far nodeT 250 small_nodeT (by decide +kernel) (by decide +kernel) (by decide +kernel)
  have g3 := ask_Answer_ok nodeT ⟨2, 9, 100, [], 95, zeroItem, false⟩ small_nodeT (by unfold cap; simp) (by decide +kernel)
  have g4 := ask_Told_ok nodeT ⟨3, 9, 100, [], 5, zeroItem, false⟩ small_nodeT (by unfold cap; simp) (by decide +kernel)
  have g5 := ask_Get_no nodeT 256 small_nodeT (by decide +kernel)
  have g6 := ask_Answer_no nodeT ⟨2, 9, 101, [], 95, zeroItem, false⟩ small_nodeT (by unfold cap; simp) (by decide +kernel)
  have e1 : logOf nodeT (gotT nodeT 99) = [⟨99, true, 3⟩] := by decide +kernel
  have e2 : logPre nodeT (gotT nodeT 99) = [] := by decide +kernel
  have e3 : (ownerV nodeT.view 250).1 = 90 := by decide +kernel
  have e4 : tellOf nodeT ⟨2, 9, 100, [], 95, zeroItem, false⟩ = ⟨3, 100, 9, [], 95, itT 95 1, true⟩ := by decide +kernel
  have e5 : logOf nodeT (mT ⟨3, 9, 100, [], 5, zeroItem, false⟩) = [⟨5, false, 0⟩] := by decide +kernel
  have e6 : logPre nodeT (mT ⟨3, 9, 100, [], 5, zeroItem, false⟩) = [] := by decide +kernel
  rw [e1, e2] at g1
  rw [e3] at g2
  rw [e4] at g3
  rw [e5, e6] at g4
  have s1 := law_SameTolds [⟨99, true, 3⟩] [⟨99, true, 3⟩] (by unfold cap; simp)
  have s2 := law_SameTolds [⟨5, false, 0⟩] [⟨5, false, 0⟩] (by unfold cap; simp)
  have i1 := law21_it 95 1
  clear e1 e2 e3 e4 e5 e6
  simp [noteD, noteB, copyD, nodeB, nodeT, itT, zeroItem, nodeD, Node.cells, peersD, intsD, itemsD, toldsD, Peer.row, irow, Item.row, Told.row, msgD, Msg.row, Msg.row0, askOf] at g1 g2 g3 g4 g5 g6 i1 s1 s2
  have g0 := law21_node100
  simp [nodeT, Peer.row, irow, Item.row] at g0
  refine den_of [] [] is_gimmallaw21_awake ?_
  simp -implicitDefEqProofs [c_gimmallaw21_awake]
  repeat' (first | (refine callThen_of (by first | exact g0 | exact i1 | exact g1 | exact den_nrm (g1) | exact den_nrm (by simpa using g1) | exact g2 | exact den_nrm (g2) | exact den_nrm (by simpa using g2) | exact g3 | exact den_nrm (g3) | exact den_nrm (by simpa using g3) | exact g4 | exact den_nrm (g4) | exact den_nrm (by simpa using g4) | exact g5 | exact den_nrm (g5) | exact den_nrm (by simpa using g5) | exact g6 | exact den_nrm (g6) | exact den_nrm (by simpa using g6) | exact s1 | exact den_nrm (s1) | exact den_nrm (by simpa using s1) | exact s2 | exact den_nrm (s2) | exact den_nrm (by simpa using s2) | exact law_Num _) ?_; simp -implicitDefEqProofs [*, downTo, EQS]) | (with_reducible refine gOps_dec (fun _ => ?_) (fun _ => ?_) <;> simp -implicitDefEqProofs [*, downTo, EQS]) | (with_reducible refine gOps_ndec (fun _ => ?_) (fun _ => ?_) <;> simp -implicitDefEqProofs [*, downTo, EQS]) | (with_reducible refine gOps_and (fun hq => ?_) (fun hq => ?_) <;> (try simp at hq) <;> simp -implicitDefEqProofs [*, downTo, EQS]) | (with_reducible refine gOps_or (fun hq => ?_) (fun hq => ?_) <;> (try simp at hq) <;> simp -implicitDefEqProofs [*, downTo, EQS]) | (with_reducible refine gOps_not (fun hq => ?_) (fun hq => ?_) <;> (try simp at hq) <;> simp -implicitDefEqProofs [*, downTo, EQS]) | (with_reducible refine gOps_split (fun hq => ?_) (fun hq => ?_) <;> (try simp at hq) <;> simp -implicitDefEqProofs [*, downTo, EQS]) | (with_reducible refine condC_dec (fun _ => ?_) (fun _ => ?_) <;> simp -implicitDefEqProofs [*, downTo, EQS]) | (with_reducible refine condC_ndec (fun _ => ?_) (fun _ => ?_) <;> simp -implicitDefEqProofs [*, downTo, EQS]) | (with_reducible refine condC_and (fun hq => ?_) (fun hq => ?_) <;> (try simp at hq) <;> simp -implicitDefEqProofs [*, downTo, EQS]) | (with_reducible refine condC_or (fun hq => ?_) (fun hq => ?_) <;> (try simp at hq) <;> simp -implicitDefEqProofs [*, downTo, EQS]) | (with_reducible refine condC_not (fun hq => ?_) (fun hq => ?_) <;> (try simp at hq) <;> simp -implicitDefEqProofs [*, downTo, EQS]) | (with_reducible refine condC_split (fun hq => ?_) (fun hq => ?_) <;> (try simp at hq) <;> simp -implicitDefEqProofs [*, downTo, EQS]) | (refine appK2_if (by omega) ?_; simp -implicitDefEqProofs [*, downTo, EQS]) | (refine pureV_if (by omega) ?_; simp -implicitDefEqProofs [*, downTo, EQS]))
end Go.AM
/- AM: chapter 21's statements: Asks. -/
namespace Go.AM
set_option linter.unusedSimpArgs false
set_option linter.unusedVariables false
set_option maxRecDepth 8000
set_option maxHeartbeats 0
end Go.AM
/- AM: chapter 21's statements: Asks, AskForms, AskHome. -/
namespace Go.AM
set_option linter.unusedSimpArgs false
set_option linter.unusedVariables false
set_option maxRecDepth 8000
set_option maxHeartbeats 0
@[simp] theorem nrmLL_rep (n : Nat) (r : List D) : nrmLL (List.replicate n r) = List.replicate n (nrmL r) := by
  induction n with
  | zero => rfl
  | succ n ih => simp [List.replicate_succ, nrmLL, ih]
end Go.AM
/- AM: chapter 21's statements: AskLog. -/
namespace Go.AM
set_option linter.unusedSimpArgs false
set_option linter.unusedVariables false
set_option maxRecDepth 8000
set_option maxHeartbeats 0
def tdK (ks : List Int) (k j : Nat) : Told := ⟨(ks[j % k]?.getD 0) % 256, false, 0⟩
def tsK (ks : List Int) (k n : Nat) : List Told := (List.range n).map (tdK ks k)
def lgK (ks : List Int) (k n : Nat) : List Told := (tsK ks k n).drop (n - 64)
def ndK (ks : List Int) (k n : Nat) : Node := { nodeT with log := lgK ks k n }
theorem tsK_len (ks : List Int) (k n : Nat) : (tsK ks k n).length = n := by simp [tsK]
theorem lgK_len (ks : List Int) (k n : Nat) : (lgK ks k n).length = min n 64 := by
  unfold lgK
  rw [List.length_drop, tsK_len]
  omega
theorem lgK_step (ks : List Int) (k n : Nat) : logOf (ndK ks k n) (tdK ks k n) = lgK ks k (n + 1) := by
  have hl := lgK_len ks k n
  unfold logOf
  show (lgK ks k n ++ [tdK ks k n]).drop ((lgK ks k n).length + 1 - 64) = _
  rw [hl]
  have e : lgK ks k n ++ [tdK ks k n] = (tsK ks k (n + 1)).drop (n - 64) := by
    unfold lgK tsK
    rw [List.range_succ, List.map_append, List.drop_append_of_le_length (by simp)]
    rfl
  rw [e, List.drop_drop]
  unfold lgK
  congr 1
  omega
theorem ndK_up (ks : List Int) (k n : Nat) : nodeUp (ndK ks k n) = true := by
  have hb : (lgK ks k n).any toldOdd = false := by
    rw [List.any_eq_false]
    intro t ht
    have := List.mem_of_mem_drop ht
    unfold tsK at this
    obtain ⟨j, _, rfl⟩ := List.mem_map.1 this
    have h1 : byte ((ks[j % k]?.getD 0) % 256) = true := by simp [byte]; omega
    have h2 : byte 0 = true := by decide
    simp [toldOdd, tdK, h1, h2]
  refine nodeUp_of rfl (show viewMay nodeT.view = true by decide +kernel) (show storeMay nodeT.items = true by decide +kernel) ?_ hb
  show (lgK ks k n).length ≤ 64
  rw [lgK_len]
  omega
theorem lgK_get (ks : List Int) {k n i : Nat} (hi : i < min n 64) : (lgK ks k n)[min n 64 - 1 - i]? = some (tdK ks k (n - 1 - i)) := by
  unfold lgK tsK
  rw [List.getElem?_drop]
  have : n - 64 + (min n 64 - 1 - i) = n - 1 - i := by omega
  rw [this, List.getElem?_map, List.getElem?_range (by omega)]
  rfl
theorem mod_back {k i : Nat} (hk : 0 < k) (hi : i < 3 * k) : (3 * k - 1 - i) % k = k - 1 - i % k := by
  have h1 := Nat.mod_lt i hk
  have h2 := Nat.div_add_mod i k
  have h3 : i / k < 3 := Nat.div_lt_of_lt_mul (by omega)
  have e : 3 * k - 1 - i = (k - 1 - i % k) + k * (2 - i / k) := by
    generalize i / k = q at *
    generalize i % k = m at *
    have h4 : q = 0 ∨ q = 1 ∨ q = 2 := by clear h2; omega
    rcases h4 with rfl | rfl | rfl
    · have : k * (2 - 0) = 2 * k := by omega
      rw [this]; omega
    · have : k * (2 - 1) = k := by omega
      rw [this]; omega
    · have : k * (2 - 2) = 0 := by omega
      rw [this]; omega
  rw [e, Nat.add_mul_mod_self_left, Nat.mod_eq_of_lt (by omega)]
def LogBox (x : Node) (c : List D) : Prop := c = x.cells ∨ (x.log = [] ∧ c = [.bool true, .int .i64 100, peersD nodeT.view.peers, intsD nodeT.view.passive, itemsD nodeT.items, .nil])
theorem LogBox.sweep {x : Node} {c : List D} (h : LogBox x c) (S : Nat → Bool) : c.map (D.sweep S) = c := by
  rcases h with rfl | ⟨_, rfl⟩ <;> simp [Node.cells]
def LogInv (ks : List Int) (k n : Nat) (st : St) : Prop := ∃ c, LogBox (ndK ks k n) c ∧ st.bs = [⟨[c], 6, .box⟩] ∧ st.fr 0 = .sl (ks.map irow) ks.length ∧ st.fr 3 = .ptr 0 0 0 ∧ st.fr 4 = .int .i64 k
theorem ask_LogStep (ks : List Int) (k n : Nat) (v : Int) (hv : ks[n % k]? = some v) : Den PP 20 [nodeD (ndK ks k n), msgD ⟨3, 9, 100, [], v % 256, zeroItem, false⟩] [] (.tup [noteD (ndK ks k n) (logPre (ndK ks k n) (tdK ks k n)) (lgK ks k (n + 1)), .int .i64 0]) (noteB (ndK ks k n) (logPre (ndK ks k n) (tdK ks k n)) (lgK ks k (n + 1))) := by
  have hu := ndK_up ks k n
  have hp : place (v % 256) = true := by rw [place_iff]; omega
  have ht : mT ⟨3, 9, 100, [], v % 256, zeroItem, false⟩ = tdK ks k n := by
    unfold mT toldOf tdK
    rw [hv]
    rfl
  have c := ask_Told_ok (ndK ks k n) ⟨3, 9, 100, [], v % 256, zeroItem, false⟩ (nodeUp_small2 hu) (by simp) (by
    unfold toB
    rw [hu]
    have h9 : place 9 = true := by decide
    have h1 : place 100 = true := by decide
    simp [msgMay, hp, h9, h1, zeroItem]
    rfl)
  rw [ht, lgK_step] at c
  exact c
theorem law21_AskLog (ks : List Int) (hl : ks.length ≤ cap) : Den PP 6 [intsD ks] [] (.bool true) [] := by
  have g0 := law21_node100
  simp [nodeT, Peer.row, irow, Item.row] at g0
  unfold cap at hl
  obtain ⟨k, hk⟩ : ∃ k : Nat, k = min ks.length 40 := ⟨_, rfl⟩
  have hmn : (if (40 : Int) < (ks.length : Int) then 40 else (ks.length : Int)) = (k : Int) := by rw [hk]; split <;> omega
  have hmn2 : (if (ks.length : Int) < 40 then (ks.length : Int) else 40) = (k : Int) := by rw [hk]; split <;> omega
  have hk40 : k ≤ 40 := by omega
  have hkl : k ≤ ks.length := by omega
  clear hk
  simp only [intsD]
  refine den_of [] [] is_gimmallaw21_AskLog ?_
  simp -implicitDefEqProofs [c_gimmallaw21_AskLog]
  refine callThen_of law21_awake ?_
  simp -implicitDefEqProofs [downTo]
  refine callThen_of g0 ?_
  simp -implicitDefEqProofs [downTo, minL, minF, hmn, hmn2]
  refine count_rule 3 (fun r st => LogInv ks k (r * k) st ∧ st.fr 5 = .int .i64 r) (fun st => LogInv ks k (3 * k) st) (fun _ => False) c_gimmallaw21_AskLog_L0.eq_1 ?_ ?_ ?_ ?_ ?_
  · refine ⟨⟨_, .inr ⟨by simp [ndK, lgK, tsK], rfl⟩, by simp [nodeT, peersD, intsD, itemsD, Peer.row, irow, Item.row], by simp, by simp, by simp⟩, by simp⟩
  · rintro ⟨fr, bs⟩ ⟨⟨c, hc, hbs, h0, h3, h4⟩, h5⟩
    simp only at hbs h0 h3 h4 h5
    subst hbs
    simp -implicitDefEqProofs [h0, h3, h4, h5]
    exact ⟨c, hc, rfl, by simp [h0], by simp [h3], by simp [h4]⟩
  · rintro r ⟨fr, bs⟩ hr ⟨⟨c, hc, hbs, h0, h3, h4⟩, h5⟩
    simp only at hbs h0 h3 h4 h5
    subst hbs
    have hr3 : (r : Int) < 3 := by omega
    have hwr := wrap_next (n := r) (by omega)
    simp -implicitDefEqProofs [h0, h3, h4, h5, hr3]
    refine count_rule k (fun i st => LogInv ks k (r * k + i) st ∧ st.fr 5 = .int .i64 r ∧ st.fr 6 = .int .i64 i) (fun st => LogInv ks k (r * k + k) st ∧ st.fr 5 = .int .i64 r) (fun _ => False) c_gimmallaw21_AskLog_L1.eq_1 ?_ ?_ ?_ ?_ ?_
    · exact ⟨⟨c, hc, rfl, by simp [h0], by simp [h3], by simp [h4]⟩, by simp [h5], by simp⟩
    · rintro ⟨fr, bs⟩ ⟨⟨c, hc, hbs, h0, h3, h4⟩, h5, h6⟩
      simp only at hbs h0 h3 h4 h5 h6
      subst hbs
      simp -implicitDefEqProofs [h0, h3, h4, h5, h6]
      exact ⟨c, hc, rfl, by simp [h0], by simp [h3], by simp [h4]⟩
    · rintro i ⟨fr, bs⟩ hi ⟨⟨c, hc, hbs, h0, h3, h4⟩, h5, h6⟩
      simp only at hbs h0 h3 h4 h5 h6
      subst hbs
      have hik : (i : Int) < k := by omega
      have hil : i < ks.length := by omega
      have hil2 : (i : Int) < ks.length := by omega
      have hwi := wrap_next (n := i) (by omega)
      obtain ⟨v, hv⟩ : ∃ v, ks[i]? = some v := ⟨ks[i], by simp [hil]⟩
      have hgv : ks[i] = v := by simpa [hil] using hv
      have hmod : (r * k + i) % k = i := by rw [Nat.add_comm, Nat.add_mul_mod_self_right, Nat.mod_eq_of_lt hi]
      have st := ask_LogStep ks k (r * k + i) v (by rw [hmod]; exact hv)
      have hnx : r * k + (i + 1) = (r * k + i) + 1 := by omega
      generalize hN : r * k + i = N at *
      generalize logPre (ndK ks k N) (tdK ks k N) = pre at st
      have hK : ∀ (fr : Nat → D) (bs : List Blk), bs = [⟨[(ndK ks k (N + 1)).cells], 6, .box⟩] → fr 0 = .sl (ks.map irow) ks.length → fr 3 = .ptr 0 0 0 → fr 4 = .int .i64 k → LogInv ks k (N + 1) ⟨fr, bs⟩ := by
        intro fr bs e1 e2 e3 e4
        exact ⟨_, .inl rfl, e1, e2, e3, e4⟩
      simp only [ndK, noteD, noteB, msgD, Msg.row, zeroItem, List.map_nil, List.length_nil, nodeD, nodeT, Node.cells, peersD, intsD, itemsD, toldsD, List.map_cons, List.length_cons, Peer.row, Item.row, irow] at st hK
      clear hv hmod hN
      have hc' : c = (ndK ks k N).cells ∨ (lgK ks k N = [] ∧ c = [.bool true, .int .i64 100, peersD nodeT.view.peers, intsD nodeT.view.passive, itemsD nodeT.items, .nil]) := hc
      rcases hc' with rfl | ⟨hlg, rfl⟩
      · simp -implicitDefEqProofs [h0, h3, h4, h5, h6, hik, hil, hil2, hgv, irow, Peer.row, Item.row, ndK, nodeT, Node.cells, peersD, intsD, itemsD, toldsD]
        repeat' (first | (refine callThen_of (by first | exact st | exact den_nrm (st) | exact den_nrm (by simpa using st) | exact law_Num _) ?_; simp -implicitDefEqProofs [*, h0, h3, h4, h5, h6, hik, hil, hil2, hgv, hwi, irow, Peer.row, Item.row, downTo, ndK, nodeT, Node.cells, peersD, intsD, itemsD, toldsD]) | (with_reducible refine gOps_dec (fun _ => ?_) (fun _ => ?_) <;> simp -implicitDefEqProofs [*, h0, h3, h4, h5, h6, hik, hil, hil2, hgv, hwi, irow, Peer.row, Item.row, downTo, ndK, nodeT, Node.cells, peersD, intsD, itemsD, toldsD]) | (with_reducible refine gOps_ndec (fun _ => ?_) (fun _ => ?_) <;> simp -implicitDefEqProofs [*, h0, h3, h4, h5, h6, hik, hil, hil2, hgv, hwi, irow, Peer.row, Item.row, downTo, ndK, nodeT, Node.cells, peersD, intsD, itemsD, toldsD]) | (with_reducible refine gOps_and (fun hq => ?_) (fun hq => ?_) <;> (try simp at hq) <;> simp -implicitDefEqProofs [*, h0, h3, h4, h5, h6, hik, hil, hil2, hgv, hwi, irow, Peer.row, Item.row, downTo, ndK, nodeT, Node.cells, peersD, intsD, itemsD, toldsD]) | (with_reducible refine gOps_or (fun hq => ?_) (fun hq => ?_) <;> (try simp at hq) <;> simp -implicitDefEqProofs [*, h0, h3, h4, h5, h6, hik, hil, hil2, hgv, hwi, irow, Peer.row, Item.row, downTo, ndK, nodeT, Node.cells, peersD, intsD, itemsD, toldsD]) | (with_reducible refine gOps_not (fun hq => ?_) (fun hq => ?_) <;> (try simp at hq) <;> simp -implicitDefEqProofs [*, h0, h3, h4, h5, h6, hik, hil, hil2, hgv, hwi, irow, Peer.row, Item.row, downTo, ndK, nodeT, Node.cells, peersD, intsD, itemsD, toldsD]) | (with_reducible refine gOps_split (fun hq => ?_) (fun hq => ?_) <;> (try simp at hq) <;> simp -implicitDefEqProofs [*, h0, h3, h4, h5, h6, hik, hil, hil2, hgv, hwi, irow, Peer.row, Item.row, downTo, ndK, nodeT, Node.cells, peersD, intsD, itemsD, toldsD]) | (with_reducible refine condC_dec (fun _ => ?_) (fun _ => ?_) <;> simp -implicitDefEqProofs [*, h0, h3, h4, h5, h6, hik, hil, hil2, hgv, hwi, irow, Peer.row, Item.row, downTo, ndK, nodeT, Node.cells, peersD, intsD, itemsD, toldsD]) | (with_reducible refine condC_ndec (fun _ => ?_) (fun _ => ?_) <;> simp -implicitDefEqProofs [*, h0, h3, h4, h5, h6, hik, hil, hil2, hgv, hwi, irow, Peer.row, Item.row, downTo, ndK, nodeT, Node.cells, peersD, intsD, itemsD, toldsD]) | (with_reducible refine condC_and (fun hq => ?_) (fun hq => ?_) <;> (try simp at hq) <;> simp -implicitDefEqProofs [*, h0, h3, h4, h5, h6, hik, hil, hil2, hgv, hwi, irow, Peer.row, Item.row, downTo, ndK, nodeT, Node.cells, peersD, intsD, itemsD, toldsD]) | (with_reducible refine condC_or (fun hq => ?_) (fun hq => ?_) <;> (try simp at hq) <;> simp -implicitDefEqProofs [*, h0, h3, h4, h5, h6, hik, hil, hil2, hgv, hwi, irow, Peer.row, Item.row, downTo, ndK, nodeT, Node.cells, peersD, intsD, itemsD, toldsD]) | (with_reducible refine condC_not (fun hq => ?_) (fun hq => ?_) <;> (try simp at hq) <;> simp -implicitDefEqProofs [*, h0, h3, h4, h5, h6, hik, hil, hil2, hgv, hwi, irow, Peer.row, Item.row, downTo, ndK, nodeT, Node.cells, peersD, intsD, itemsD, toldsD]) | (with_reducible refine condC_split (fun hq => ?_) (fun hq => ?_) <;> (try simp at hq) <;> simp -implicitDefEqProofs [*, h0, h3, h4, h5, h6, hik, hil, hil2, hgv, hwi, irow, Peer.row, Item.row, downTo, ndK, nodeT, Node.cells, peersD, intsD, itemsD, toldsD]) | (refine appK2_if (by omega) ?_; simp -implicitDefEqProofs [*, h0, h3, h4, h5, h6, hik, hil, hil2, hgv, hwi, irow, Peer.row, Item.row, downTo, ndK, nodeT, Node.cells, peersD, intsD, itemsD, toldsD]) | (refine pureV_if (by omega) ?_; simp -implicitDefEqProofs [*, h0, h3, h4, h5, h6, hik, hil, hil2, hgv, hwi, irow, Peer.row, Item.row, downTo, ndK, nodeT, Node.cells, peersD, intsD, itemsD, toldsD]))
      · rw [hlg] at st
        simp -implicitDefEqProofs [h0, h3, h4, h5, h6, hik, hil, hil2, hgv, irow, Peer.row, Item.row, nodeT, peersD, intsD, itemsD, toldsD]
        repeat' (first | (refine callThen_of (by first | exact st | exact den_nrm (st) | exact den_nrm (by simpa using st) | exact law_Num _) ?_; simp -implicitDefEqProofs [*, h0, h3, h4, h5, h6, hik, hil, hil2, hgv, hwi, irow, Peer.row, Item.row, downTo, nodeT, peersD, intsD, itemsD, toldsD]) | (with_reducible refine gOps_dec (fun _ => ?_) (fun _ => ?_) <;> simp -implicitDefEqProofs [*, h0, h3, h4, h5, h6, hik, hil, hil2, hgv, hwi, irow, Peer.row, Item.row, downTo, nodeT, peersD, intsD, itemsD, toldsD]) | (with_reducible refine gOps_ndec (fun _ => ?_) (fun _ => ?_) <;> simp -implicitDefEqProofs [*, h0, h3, h4, h5, h6, hik, hil, hil2, hgv, hwi, irow, Peer.row, Item.row, downTo, nodeT, peersD, intsD, itemsD, toldsD]) | (with_reducible refine gOps_and (fun hq => ?_) (fun hq => ?_) <;> (try simp at hq) <;> simp -implicitDefEqProofs [*, h0, h3, h4, h5, h6, hik, hil, hil2, hgv, hwi, irow, Peer.row, Item.row, downTo, nodeT, peersD, intsD, itemsD, toldsD]) | (with_reducible refine gOps_or (fun hq => ?_) (fun hq => ?_) <;> (try simp at hq) <;> simp -implicitDefEqProofs [*, h0, h3, h4, h5, h6, hik, hil, hil2, hgv, hwi, irow, Peer.row, Item.row, downTo, nodeT, peersD, intsD, itemsD, toldsD]) | (with_reducible refine gOps_not (fun hq => ?_) (fun hq => ?_) <;> (try simp at hq) <;> simp -implicitDefEqProofs [*, h0, h3, h4, h5, h6, hik, hil, hil2, hgv, hwi, irow, Peer.row, Item.row, downTo, nodeT, peersD, intsD, itemsD, toldsD]) | (with_reducible refine gOps_split (fun hq => ?_) (fun hq => ?_) <;> (try simp at hq) <;> simp -implicitDefEqProofs [*, h0, h3, h4, h5, h6, hik, hil, hil2, hgv, hwi, irow, Peer.row, Item.row, downTo, nodeT, peersD, intsD, itemsD, toldsD]) | (with_reducible refine condC_dec (fun _ => ?_) (fun _ => ?_) <;> simp -implicitDefEqProofs [*, h0, h3, h4, h5, h6, hik, hil, hil2, hgv, hwi, irow, Peer.row, Item.row, downTo, nodeT, peersD, intsD, itemsD, toldsD]) | (with_reducible refine condC_ndec (fun _ => ?_) (fun _ => ?_) <;> simp -implicitDefEqProofs [*, h0, h3, h4, h5, h6, hik, hil, hil2, hgv, hwi, irow, Peer.row, Item.row, downTo, nodeT, peersD, intsD, itemsD, toldsD]) | (with_reducible refine condC_and (fun hq => ?_) (fun hq => ?_) <;> (try simp at hq) <;> simp -implicitDefEqProofs [*, h0, h3, h4, h5, h6, hik, hil, hil2, hgv, hwi, irow, Peer.row, Item.row, downTo, nodeT, peersD, intsD, itemsD, toldsD]) | (with_reducible refine condC_or (fun hq => ?_) (fun hq => ?_) <;> (try simp at hq) <;> simp -implicitDefEqProofs [*, h0, h3, h4, h5, h6, hik, hil, hil2, hgv, hwi, irow, Peer.row, Item.row, downTo, nodeT, peersD, intsD, itemsD, toldsD]) | (with_reducible refine condC_not (fun hq => ?_) (fun hq => ?_) <;> (try simp at hq) <;> simp -implicitDefEqProofs [*, h0, h3, h4, h5, h6, hik, hil, hil2, hgv, hwi, irow, Peer.row, Item.row, downTo, nodeT, peersD, intsD, itemsD, toldsD]) | (with_reducible refine condC_split (fun hq => ?_) (fun hq => ?_) <;> (try simp at hq) <;> simp -implicitDefEqProofs [*, h0, h3, h4, h5, h6, hik, hil, hil2, hgv, hwi, irow, Peer.row, Item.row, downTo, nodeT, peersD, intsD, itemsD, toldsD]) | (refine appK2_if (by omega) ?_; simp -implicitDefEqProofs [*, h0, h3, h4, h5, h6, hik, hil, hil2, hgv, hwi, irow, Peer.row, Item.row, downTo, nodeT, peersD, intsD, itemsD, toldsD]) | (refine pureV_if (by omega) ?_; simp -implicitDefEqProofs [*, h0, h3, h4, h5, h6, hik, hil, hil2, hgv, hwi, irow, Peer.row, Item.row, downTo, nodeT, peersD, intsD, itemsD, toldsD]))
    · rintro ⟨fr, bs⟩ ⟨⟨c, hc, hbs, h0, h3, h4⟩, h5⟩
      simp only at hbs h0 h3 h4 h5
      subst hbs
      simp -implicitDefEqProofs [h0, h3, h4, h5, hwr]
      rw [show (r + 1) * k = r * k + k from Nat.succ_mul r k]
      exact ⟨c, hc, by simp [hc.sweep], by simp [h0], by simp [h3], by simp [h4]⟩
    · rintro ⟨fr, bs⟩ h
      exact h.elim
  · rintro ⟨fr, bs⟩ ⟨c, hc, hbs, h0, h3, h4⟩
    simp only at hbs h0 h3 h4
    subst hbs
    have hll := lgK_len ks k (3 * k)
    have hmm : (if (64 : Int) < 3 * (k : Int) then 64 else 3 * (k : Int)) = ((min (3 * k) 64 : Nat) : Int) := by split <;> omega
    have hmm2 : (if 3 * (k : Int) < 64 then 3 * (k : Int) else 64) = ((min (3 * k) 64 : Nat) : Int) := by split <;> omega
    have hw3 : IntKind.wrap .i64 (3 * (k : Int)) = 3 * k := wrap_in (by omega) (by omega)
    have hc' : c = (ndK ks k (3 * k)).cells ∨ (lgK ks k (3 * k) = [] ∧ c = [.bool true, .int .i64 100, peersD nodeT.view.peers, intsD nodeT.view.passive, itemsD nodeT.items, .nil]) := hc
    rcases hc' with rfl | ⟨hlg, rfl⟩
    · simp -implicitDefEqProofs [h0, h3, h4, hw3, minL, minF, hmm, hmm2, ndK, nodeT, Node.cells, peersD, intsD, itemsD, toldsD, hll]
      refine count_rule (min (3 * k) 64) (fun i st => st.bs = [⟨[[.bool true, .int .i64 100, peersD nodeT.view.peers, intsD nodeT.view.passive, itemsD nodeT.items, .sl ((lgK ks k (3 * k)).map Told.row) (min (3 * k) 64)]], 6, .box⟩] ∧ st.fr 0 = .sl (ks.map irow) ks.length ∧ st.fr 3 = .ptr 0 0 0 ∧ st.fr 4 = .int .i64 k ∧ st.fr 9 = .int .i64 i) (fun st => True) (fun _ => False) c_gimmallaw21_AskLog_L2.eq_1 ?_ ?_ ?_ ?_ ?_
      · exact ⟨by simp [nodeT, peersD, intsD, itemsD], by simp [h0], by simp [h3], by simp [h4], by simp⟩
      · rintro ⟨fr, bs⟩ ⟨hbs, h0, h3, h4, h9⟩
        simp only at hbs h0 h3 h4 h9
        subst hbs
        simp -implicitDefEqProofs [h0, h3, h4, h9]
      · rintro i ⟨fr, bs⟩ hi ⟨hbs, h0, h3, h4, h9⟩
        simp only at hbs h0 h3 h4 h9
        subst hbs
        generalize hM : min (3 * k) 64 = M at *
        have hiM : (i : Int) < M := by omega
        have hkp : 0 < k := by omega
        have hml := Nat.mod_lt i hkp
        have wA : IntKind.wrap .i64 ((M : Int) - 1) = M - 1 := wrap_in (by omega) (by omega)
        have wB : IntKind.wrap .i64 ((M : Int) - 1 - i) = ((M - 1 - i : Nat) : Int) := by rw [wrap_in (by omega) (by omega)]; omega
        have wC : IntKind.wrap .i64 ((k : Int) - 1) = k - 1 := wrap_in (by omega) (by omega)
        have wT : (i : Int).tmod k = ((i % k : Nat) : Int) := by rw [Int.tmod_eq_emod_of_nonneg (by omega)]; simp
        have wD : IntKind.wrap .i64 ((k : Int) - 1 - ((i % k : Nat) : Int)) = ((k - 1 - i % k : Nat) : Int) := by rw [wrap_in (by omega) (by omega)]; omega
        have wi := wrap_next (n := i) (by omega)
        have hkn : ¬ (k : Int) = 0 := by omega
        have hkn2 : ¬ k = 0 := by omega
        have hg := lgK_get ks (k := k) (n := 3 * k) (i := i) (by omega)
        rw [hM] at hg
        have hq : k - 1 - i % k < ks.length := by omega
        have hq2 : ((k - 1 - i % k : Nat) : Int) < ks.length := by omega
        obtain ⟨v, hv⟩ : ∃ v, ks[k - 1 - i % k]? = some v := ⟨ks[k - 1 - i % k], by simp [hq]⟩
        have hgv : ks[k - 1 - i % k] = v := by simpa [hq] using hv
        have htd : tdK ks k (3 * k - 1 - i) = ⟨v % 256, false, 0⟩ := by
          unfold tdK
          rw [mod_back hkp (by omega), hv]
          rfl
        rw [htd] at hg
        have hgl : (lgK ks k (3 * k)).length = M := hll
        have hr : M - 1 - i < M := by omega
        have hr2 : ((M - 1 - i : Nat) : Int) < M := by omega
        have hg2 : ((lgK ks k (3 * k)).map Told.row)[M - 1 - i]? = some [.int .i64 (v % 256), .bool false, .int .i64 0] := by
          rw [List.getElem?_map, hg]
          rfl
        generalize (lgK ks k (3 * k)).map Told.row = rows at *
        generalize hp1 : M - 1 - i = p1 at *
        generalize hp2 : k - 1 - i % k = p2 at *
        generalize hp3 : i % k = p3 at *
        clear hp1 hp2 hp3 hv htd hg hll hM hml hmm hmm2 hmn hmn2
        simp -implicitDefEqProofs [h0, h3, h4, h9, hiM, wA, wB, wC, wT, wD, hkn, hkn2, hq, hq2, hgv, hr, hr2, hg2, irow, EQS, wi]
        repeat' (first | (with_reducible refine gOps_dec (fun _ => ?_) (fun _ => ?_) <;> simp -implicitDefEqProofs [*, h0, h3, h4, h9, hiM, wA, wB, wC, wT, wD, hkn, hkn2, hq, hq2, hgv, hr, hr2, hg2, irow, EQS, wi]) | (with_reducible refine gOps_ndec (fun _ => ?_) (fun _ => ?_) <;> simp -implicitDefEqProofs [*, h0, h3, h4, h9, hiM, wA, wB, wC, wT, wD, hkn, hkn2, hq, hq2, hgv, hr, hr2, hg2, irow, EQS, wi]) | (with_reducible refine gOps_and (fun hq => ?_) (fun hq => ?_) <;> (try simp at hq) <;> simp -implicitDefEqProofs [*, h0, h3, h4, h9, hiM, wA, wB, wC, wT, wD, hkn, hkn2, hq, hq2, hgv, hr, hr2, hg2, irow, EQS, wi]) | (with_reducible refine gOps_or (fun hq => ?_) (fun hq => ?_) <;> (try simp at hq) <;> simp -implicitDefEqProofs [*, h0, h3, h4, h9, hiM, wA, wB, wC, wT, wD, hkn, hkn2, hq, hq2, hgv, hr, hr2, hg2, irow, EQS, wi]) | (with_reducible refine gOps_not (fun hq => ?_) (fun hq => ?_) <;> (try simp at hq) <;> simp -implicitDefEqProofs [*, h0, h3, h4, h9, hiM, wA, wB, wC, wT, wD, hkn, hkn2, hq, hq2, hgv, hr, hr2, hg2, irow, EQS, wi]) | (with_reducible refine gOps_split (fun hq => ?_) (fun hq => ?_) <;> (try simp at hq) <;> simp -implicitDefEqProofs [*, h0, h3, h4, h9, hiM, wA, wB, wC, wT, wD, hkn, hkn2, hq, hq2, hgv, hr, hr2, hg2, irow, EQS, wi]) | (with_reducible refine condC_dec (fun _ => ?_) (fun _ => ?_) <;> simp -implicitDefEqProofs [*, h0, h3, h4, h9, hiM, wA, wB, wC, wT, wD, hkn, hkn2, hq, hq2, hgv, hr, hr2, hg2, irow, EQS, wi]) | (with_reducible refine condC_ndec (fun _ => ?_) (fun _ => ?_) <;> simp -implicitDefEqProofs [*, h0, h3, h4, h9, hiM, wA, wB, wC, wT, wD, hkn, hkn2, hq, hq2, hgv, hr, hr2, hg2, irow, EQS, wi]) | (with_reducible refine condC_and (fun hq => ?_) (fun hq => ?_) <;> (try simp at hq) <;> simp -implicitDefEqProofs [*, h0, h3, h4, h9, hiM, wA, wB, wC, wT, wD, hkn, hkn2, hq, hq2, hgv, hr, hr2, hg2, irow, EQS, wi]) | (with_reducible refine condC_or (fun hq => ?_) (fun hq => ?_) <;> (try simp at hq) <;> simp -implicitDefEqProofs [*, h0, h3, h4, h9, hiM, wA, wB, wC, wT, wD, hkn, hkn2, hq, hq2, hgv, hr, hr2, hg2, irow, EQS, wi]) | (with_reducible refine condC_not (fun hq => ?_) (fun hq => ?_) <;> (try simp at hq) <;> simp -implicitDefEqProofs [*, h0, h3, h4, h9, hiM, wA, wB, wC, wT, wD, hkn, hkn2, hq, hq2, hgv, hr, hr2, hg2, irow, EQS, wi]) | (with_reducible refine condC_split (fun hq => ?_) (fun hq => ?_) <;> (try simp at hq) <;> simp -implicitDefEqProofs [*, h0, h3, h4, h9, hiM, wA, wB, wC, wT, wD, hkn, hkn2, hq, hq2, hgv, hr, hr2, hg2, irow, EQS, wi]) | (refine appK2_if (by omega) ?_; simp -implicitDefEqProofs [*, h0, h3, h4, h9, hiM, wA, wB, wC, wT, wD, hkn, hkn2, hq, hq2, hgv, hr, hr2, hg2, irow, EQS, wi]) | (refine pureV_if (by omega) ?_; simp -implicitDefEqProofs [*, h0, h3, h4, h9, hiM, wA, wB, wC, wT, wD, hkn, hkn2, hq, hq2, hgv, hr, hr2, hg2, irow, EQS, wi]))
      · rintro ⟨fr, bs⟩ _
        simp -implicitDefEqProofs
      · rintro ⟨fr, bs⟩ h
        exact h.elim
    · rw [hlg] at hll
      have hk0 : k = 0 := by simp at hll; omega
      subst hk0
      clear hll hmm hmm2 hw3 hlg
      simp -implicitDefEqProofs [h0, h3, h4, minL, minF, nodeT, peersD, intsD, itemsD, toldsD]
      refine count_rule 0 (fun i st => (∃ c0 c1 c2 c3 c4, st.bs = [⟨[[c0, c1, c2, c3, c4, .nil]], 6, .box⟩]) ∧ st.fr 0 = .sl (ks.map irow) ks.length ∧ st.fr 3 = .ptr 0 0 0 ∧ st.fr 4 = .int .i64 (0 : Nat) ∧ st.fr 9 = .int .i64 0) (fun st => True) (fun _ => False) c_gimmallaw21_AskLog_L2.eq_1 ?_ ?_ ?_ ?_ ?_
      · exact ⟨⟨_, _, _, _, _, rfl⟩, by simp [h0], by simp [h3], by simp [h4], by simp⟩
      · rintro ⟨fr, bs⟩ ⟨⟨c0, c1, c2, c3, c4, hbs⟩, h0, h3, h4, h9⟩
        simp only at hbs h0 h3 h4 h9
        subst hbs
        simp -implicitDefEqProofs [h0, h3, h4, h9]
      · intro i st hi
        omega
      · rintro ⟨fr, bs⟩ _
        simp -implicitDefEqProofs
      · rintro ⟨fr, bs⟩ h
        exact h.elim
  · rintro ⟨fr, bs⟩ h
    exact h.elim
end Go.AM
