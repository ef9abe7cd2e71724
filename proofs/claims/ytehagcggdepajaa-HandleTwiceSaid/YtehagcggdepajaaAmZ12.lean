/- What the proof of this claim stands on, part 12. -/
import Derived.Test.YtehagcggdepajaaAmZ11
/- AM: contracts: handle.Do. -/
namespace Go.AM
set_option linter.unusedSimpArgs false
set_option linter.unusedVariables false
set_option maxRecDepth 8000
set_option maxHeartbeats 0
def doB (x : Node) (m : Msg) : Bool := nodeUp x && (msgMay m && decide (m.to = x.view.id))
theorem doB_parts {x : Node} {m : Msg} (h : doB x m = true) : nodeUp x = true ∧ msgMay m = true ∧ m.to = x.view.id := by
  simp only [doB, Bool.and_eq_true, decide_eq_true_eq] at h
  exact h
theorem kind_cases {m : Msg} (h : msgMay m = true) : m.kind = 0 ∨ m.kind = 1 ∨ m.kind = 2 ∨ m.kind = 3 := by
  simp only [msgMay, Bool.and_eq_true] at h
  obtain ⟨_, _, _, h⟩ := h
  by_cases h0 : m.kind = 0
  · exact .inl h0
  by_cases h1 : m.kind = 1
  · exact .inr (.inl h1)
  by_cases h2 : m.kind = 2
  · exact .inr (.inr (.inl h2))
  by_cases h3 : m.kind = 3
  · exact .inr (.inr (.inr h3))
  simp [h0, h1, h2, h3] at h
theorem item_ok {m : Msg} (h : msgMay m = true) (hk : m.kind = 1) : itemMay m.item = true := by
  simp [msgMay, hk] at h
  exact h.2.2.2.2
theorem toB_ok {x : Node} {m : Msg} (h : doB x m = true) {k : Int} (hk : m.kind = k) : toB x m k = true := by
  obtain ⟨h1, h2, h3⟩ := doB_parts h
  simp [toB, h1, h2, h3, hk]
theorem handle_Do_no (x : Node) (m : Msg) (hs : x.small) (hl : m.ids.length ≤ cap) (h : doB x m = false) : Den PP 10 [nodeD x, msgD m] [] (.tup [.agg [.bool false, .int .i64 0, .nil, .nil, .nil, .nil], .ref 0 0 0, .int .i64 2200]) [⟨[], 11, .mut⟩] := by
  have c1 := node_Up x hs
  have c2 := msg_May m hl
  unfold doB at h
  generalize nodeUp x = U at *
  generalize msgMay m = M at *
  simp only [nodeD, Node.cells, peersD, intsD, itemsD, toldsD, Item.row, msgD, Msg.row] at c1 c2 ⊢
  refine den_of [27] [43] is_handle_Do ?_
  cases U <;> cases M
  all_goals
    simp at h
  all_goals
    simp -implicitDefEqProofs [c_handle_Do]
    repeat' (first | (refine callThen_of (by first | exact c1 | exact c2) ?_; simp -implicitDefEqProofs [*]) | (with_reducible refine gOps_dec (fun _ => ?_) (fun _ => ?_) <;> simp -implicitDefEqProofs [*]) | (with_reducible refine gOps_ndec (fun _ => ?_) (fun _ => ?_) <;> simp -implicitDefEqProofs [*]) | (with_reducible refine gOps_and (fun hq => ?_) (fun hq => ?_) <;> (try simp at hq) <;> simp -implicitDefEqProofs [*]) | (with_reducible refine gOps_or (fun hq => ?_) (fun hq => ?_) <;> (try simp at hq) <;> simp -implicitDefEqProofs [*]) | (with_reducible refine gOps_not (fun hq => ?_) (fun hq => ?_) <;> (try simp at hq) <;> simp -implicitDefEqProofs [*]) | (with_reducible refine gOps_split (fun hq => ?_) (fun hq => ?_) <;> (try simp at hq) <;> simp -implicitDefEqProofs [*]) | (with_reducible refine condC_dec (fun _ => ?_) (fun _ => ?_) <;> simp -implicitDefEqProofs [*]) | (with_reducible refine condC_ndec (fun _ => ?_) (fun _ => ?_) <;> simp -implicitDefEqProofs [*]) | (with_reducible refine condC_and (fun hq => ?_) (fun hq => ?_) <;> (try simp at hq) <;> simp -implicitDefEqProofs [*]) | (with_reducible refine condC_or (fun hq => ?_) (fun hq => ?_) <;> (try simp at hq) <;> simp -implicitDefEqProofs [*]) | (with_reducible refine condC_not (fun hq => ?_) (fun hq => ?_) <;> (try simp at hq) <;> simp -implicitDefEqProofs [*]) | (with_reducible refine condC_split (fun hq => ?_) (fun hq => ?_) <;> (try simp at hq) <;> simp -implicitDefEqProofs [*]) | (refine appK2_if (by omega) ?_; simp -implicitDefEqProofs [*]) | (refine pureV_if (by omega) ?_; simp -implicitDefEqProofs [*]))
theorem handle_Do_0 (x : Node) (m : Msg) (hs : x.small) (hl : m.ids.length ≤ cap) (h : doB x m = true) (hk : m.kind = 0) : Den PP 10 [nodeD x, msgD m] [] (.tup [copyD { x with view := helloV x.view m.from_ m.ids }, .nil, .int .i64 0]) (nodeB { x with view := helloV x.view m.from_ m.ids }) := by
  have c1 := node_Up x hs
  have c2 := msg_May m hl
  obtain ⟨h1, h2, h3⟩ := doB_parts h
  have c4 := handler_hello x m hs (hello_ok h1 h2 hk h3)
  rw [h1] at c1
  rw [h2] at c2
  have c3 := node_Copy x hs
  generalize helloV x.view m.from_ m.ids = w at *
  clear h h1 h2
  simp only [hBox, psB, xsB, nodeD, Node.cells, viewD, View.cells, peersD, intsD, itemsD, toldsD, Item.row, copyD, nodeB, noteD, noteB, msgD, Msg.row, hk, h3, List.map_cons, List.map_nil] at c1 c2 c3 c4 ⊢
  refine den_of [27] [43] is_handle_Do ?_
  simp -implicitDefEqProofs [c_handle_Do, h3, hk]
  repeat' (first | (refine callThen_of (by first | exact c1 | exact c2 | exact c3) ?_; simp -implicitDefEqProofs [*, downTo, h3, hk]) | (with_reducible refine gOps_dec (fun _ => ?_) (fun _ => ?_) <;> simp -implicitDefEqProofs [*, downTo, h3, hk]) | (with_reducible refine gOps_ndec (fun _ => ?_) (fun _ => ?_) <;> simp -implicitDefEqProofs [*, downTo, h3, hk]) | (with_reducible refine gOps_and (fun hq => ?_) (fun hq => ?_) <;> (try simp at hq) <;> simp -implicitDefEqProofs [*, downTo, h3, hk]) | (with_reducible refine gOps_or (fun hq => ?_) (fun hq => ?_) <;> (try simp at hq) <;> simp -implicitDefEqProofs [*, downTo, h3, hk]) | (with_reducible refine gOps_not (fun hq => ?_) (fun hq => ?_) <;> (try simp at hq) <;> simp -implicitDefEqProofs [*, downTo, h3, hk]) | (with_reducible refine gOps_split (fun hq => ?_) (fun hq => ?_) <;> (try simp at hq) <;> simp -implicitDefEqProofs [*, downTo, h3, hk]) | (with_reducible refine condC_dec (fun _ => ?_) (fun _ => ?_) <;> simp -implicitDefEqProofs [*, downTo, h3, hk]) | (with_reducible refine condC_ndec (fun _ => ?_) (fun _ => ?_) <;> simp -implicitDefEqProofs [*, downTo, h3, hk]) | (with_reducible refine condC_and (fun hq => ?_) (fun hq => ?_) <;> (try simp at hq) <;> simp -implicitDefEqProofs [*, downTo, h3, hk]) | (with_reducible refine condC_or (fun hq => ?_) (fun hq => ?_) <;> (try simp at hq) <;> simp -implicitDefEqProofs [*, downTo, h3, hk]) | (with_reducible refine condC_not (fun hq => ?_) (fun hq => ?_) <;> (try simp at hq) <;> simp -implicitDefEqProofs [*, downTo, h3, hk]) | (with_reducible refine condC_split (fun hq => ?_) (fun hq => ?_) <;> (try simp at hq) <;> simp -implicitDefEqProofs [*, downTo, h3, hk]) | (refine appK2_if (by omega) ?_; simp -implicitDefEqProofs [*, downTo, h3, hk]) | (refine pureV_if (by omega) ?_; simp -implicitDefEqProofs [*, downTo, h3, hk]))
  refine lendThen_frame [8, 4, 5, 6, 7] rfl (by decide) (by simp) c4 (by simp) (by simp [lentBs]) ?_
  simp -implicitDefEqProofs [framed]
  repeat' apply And.intro
  all_goals repeat' (first | (with_reducible refine gOps_dec (fun _ => ?_) (fun _ => ?_) <;> simp -implicitDefEqProofs [*, downTo]) | (with_reducible refine gOps_ndec (fun _ => ?_) (fun _ => ?_) <;> simp -implicitDefEqProofs [*, downTo]) | (with_reducible refine gOps_and (fun hq => ?_) (fun hq => ?_) <;> (try simp at hq) <;> simp -implicitDefEqProofs [*, downTo]) | (with_reducible refine gOps_or (fun hq => ?_) (fun hq => ?_) <;> (try simp at hq) <;> simp -implicitDefEqProofs [*, downTo]) | (with_reducible refine gOps_not (fun hq => ?_) (fun hq => ?_) <;> (try simp at hq) <;> simp -implicitDefEqProofs [*, downTo]) | (with_reducible refine gOps_split (fun hq => ?_) (fun hq => ?_) <;> (try simp at hq) <;> simp -implicitDefEqProofs [*, downTo]) | (with_reducible refine condC_dec (fun _ => ?_) (fun _ => ?_) <;> simp -implicitDefEqProofs [*, downTo]) | (with_reducible refine condC_ndec (fun _ => ?_) (fun _ => ?_) <;> simp -implicitDefEqProofs [*, downTo]) | (with_reducible refine condC_and (fun hq => ?_) (fun hq => ?_) <;> (try simp at hq) <;> simp -implicitDefEqProofs [*, downTo]) | (with_reducible refine condC_or (fun hq => ?_) (fun hq => ?_) <;> (try simp at hq) <;> simp -implicitDefEqProofs [*, downTo]) | (with_reducible refine condC_not (fun hq => ?_) (fun hq => ?_) <;> (try simp at hq) <;> simp -implicitDefEqProofs [*, downTo]) | (with_reducible refine condC_split (fun hq => ?_) (fun hq => ?_) <;> (try simp at hq) <;> simp -implicitDefEqProofs [*, downTo]) | (refine appK2_if (by omega) ?_; simp -implicitDefEqProofs [*, downTo]) | (refine pureV_if (by omega) ?_; simp -implicitDefEqProofs [*, downTo]))
theorem handle_Do_1 (x : Node) (m : Msg) (hs : x.small) (hl : m.ids.length ≤ cap) (h : doB x m = true) (hk : m.kind = 1) : Den PP 10 [nodeD x, msgD m] [] (.tup [copyD (takeI x m.item), .nil, .int .i64 0]) (nodeB (takeI x m.item)) := by
  have c1 := node_Up x hs
  have c2 := msg_May m hl
  obtain ⟨h1, h2, h3⟩ := doB_parts h
  have c4 := handler_item x m hs (by rw [h1, item_ok h2 hk]; rfl)
  rw [h1] at c1
  rw [h2] at c2
  have c3 := node_Copy x hs
  generalize takeI x m.item = y at *
  clear h h1 h2
  simp only [hBox, psB, xsB, nodeD, Node.cells, viewD, View.cells, peersD, intsD, itemsD, toldsD, Item.row, copyD, nodeB, noteD, noteB, msgD, Msg.row, hk, h3, List.map_cons, List.map_nil] at c1 c2 c3 c4 ⊢
  refine den_of [27] [43] is_handle_Do ?_
  simp -implicitDefEqProofs [c_handle_Do, h3, hk]
  repeat' (first | (refine callThen_of (by first | exact c1 | exact c2 | exact c3) ?_; simp -implicitDefEqProofs [*, downTo, h3, hk]) | (with_reducible refine gOps_dec (fun _ => ?_) (fun _ => ?_) <;> simp -implicitDefEqProofs [*, downTo, h3, hk]) | (with_reducible refine gOps_ndec (fun _ => ?_) (fun _ => ?_) <;> simp -implicitDefEqProofs [*, downTo, h3, hk]) | (with_reducible refine gOps_and (fun hq => ?_) (fun hq => ?_) <;> (try simp at hq) <;> simp -implicitDefEqProofs [*, downTo, h3, hk]) | (with_reducible refine gOps_or (fun hq => ?_) (fun hq => ?_) <;> (try simp at hq) <;> simp -implicitDefEqProofs [*, downTo, h3, hk]) | (with_reducible refine gOps_not (fun hq => ?_) (fun hq => ?_) <;> (try simp at hq) <;> simp -implicitDefEqProofs [*, downTo, h3, hk]) | (with_reducible refine gOps_split (fun hq => ?_) (fun hq => ?_) <;> (try simp at hq) <;> simp -implicitDefEqProofs [*, downTo, h3, hk]) | (with_reducible refine condC_dec (fun _ => ?_) (fun _ => ?_) <;> simp -implicitDefEqProofs [*, downTo, h3, hk]) | (with_reducible refine condC_ndec (fun _ => ?_) (fun _ => ?_) <;> simp -implicitDefEqProofs [*, downTo, h3, hk]) | (with_reducible refine condC_and (fun hq => ?_) (fun hq => ?_) <;> (try simp at hq) <;> simp -implicitDefEqProofs [*, downTo, h3, hk]) | (with_reducible refine condC_or (fun hq => ?_) (fun hq => ?_) <;> (try simp at hq) <;> simp -implicitDefEqProofs [*, downTo, h3, hk]) | (with_reducible refine condC_not (fun hq => ?_) (fun hq => ?_) <;> (try simp at hq) <;> simp -implicitDefEqProofs [*, downTo, h3, hk]) | (with_reducible refine condC_split (fun hq => ?_) (fun hq => ?_) <;> (try simp at hq) <;> simp -implicitDefEqProofs [*, downTo, h3, hk]) | (refine appK2_if (by omega) ?_; simp -implicitDefEqProofs [*, downTo, h3, hk]) | (refine pureV_if (by omega) ?_; simp -implicitDefEqProofs [*, downTo, h3, hk]))
  refine lendThen_frame [8, 4, 5, 6, 7] rfl (by decide) (by simp) c4 (by simp) (by simp [lentBs]) ?_
  simp -implicitDefEqProofs [framed]
  repeat' apply And.intro
  all_goals repeat' (first | (with_reducible refine gOps_dec (fun _ => ?_) (fun _ => ?_) <;> simp -implicitDefEqProofs [*, downTo]) | (with_reducible refine gOps_ndec (fun _ => ?_) (fun _ => ?_) <;> simp -implicitDefEqProofs [*, downTo]) | (with_reducible refine gOps_and (fun hq => ?_) (fun hq => ?_) <;> (try simp at hq) <;> simp -implicitDefEqProofs [*, downTo]) | (with_reducible refine gOps_or (fun hq => ?_) (fun hq => ?_) <;> (try simp at hq) <;> simp -implicitDefEqProofs [*, downTo]) | (with_reducible refine gOps_not (fun hq => ?_) (fun hq => ?_) <;> (try simp at hq) <;> simp -implicitDefEqProofs [*, downTo]) | (with_reducible refine gOps_split (fun hq => ?_) (fun hq => ?_) <;> (try simp at hq) <;> simp -implicitDefEqProofs [*, downTo]) | (with_reducible refine condC_dec (fun _ => ?_) (fun _ => ?_) <;> simp -implicitDefEqProofs [*, downTo]) | (with_reducible refine condC_ndec (fun _ => ?_) (fun _ => ?_) <;> simp -implicitDefEqProofs [*, downTo]) | (with_reducible refine condC_and (fun hq => ?_) (fun hq => ?_) <;> (try simp at hq) <;> simp -implicitDefEqProofs [*, downTo]) | (with_reducible refine condC_or (fun hq => ?_) (fun hq => ?_) <;> (try simp at hq) <;> simp -implicitDefEqProofs [*, downTo]) | (with_reducible refine condC_not (fun hq => ?_) (fun hq => ?_) <;> (try simp at hq) <;> simp -implicitDefEqProofs [*, downTo]) | (with_reducible refine condC_split (fun hq => ?_) (fun hq => ?_) <;> (try simp at hq) <;> simp -implicitDefEqProofs [*, downTo]) | (refine appK2_if (by omega) ?_; simp -implicitDefEqProofs [*, downTo]) | (refine pureV_if (by omega) ?_; simp -implicitDefEqProofs [*, downTo]))
theorem handle_Do_2 (x : Node) (m : Msg) (hs : x.small) (hl : m.ids.length ≤ cap) (h : doB x m = true) (hk : m.kind = 2) : ∃ kk : Kind, kk.isBox = false ∧ Den PP 10 [nodeD x, msgD m] [] (.tup [copyD x, .ref 4 0 1, .int .i64 0]) [⟨x.view.peers.map Peer.row, 2, kk⟩, ⟨x.view.passive.map irow, 1, kk⟩, ⟨x.items.map Item.row, 5, kk⟩, ⟨x.log.map Told.row, 3, kk⟩, ⟨[tellOf x m].map Msg.row0, 11, .mut⟩] := by
  have c1 := node_Up x hs
  have c2 := msg_May m hl
  obtain ⟨h1, h2, h3⟩ := doB_parts h
  have c4 := handler_ask x m hs hl (toB_ok h hk)
  rw [h1] at c1
  rw [h2] at c2
  have c3 := node_Copy x hs
  obtain ⟨kk, hkk, c4⟩ := c4
  refine ⟨kk, hkk, ?_⟩
  generalize tellOf x m = t at *
  clear h h1 h2
  simp only [hBox, psB, xsB, nodeD, Node.cells, viewD, View.cells, peersD, intsD, itemsD, toldsD, Item.row, copyD, nodeB, noteD, noteB, msgD, Msg.row, hk, h3, List.map_cons, List.map_nil] at c1 c2 c3 c4 ⊢
  refine den_of [27] [43] is_handle_Do ?_
  cases kk <;> simp [Kind.isBox] at hkk
  all_goals
    simp -implicitDefEqProofs [c_handle_Do, h3, hk]
    repeat' (first | (refine callThen_of (by first | exact c1 | exact c2 | exact c3) ?_; simp -implicitDefEqProofs [*, downTo, h3, hk]) | (with_reducible refine gOps_dec (fun _ => ?_) (fun _ => ?_) <;> simp -implicitDefEqProofs [*, downTo, h3, hk]) | (with_reducible refine gOps_ndec (fun _ => ?_) (fun _ => ?_) <;> simp -implicitDefEqProofs [*, downTo, h3, hk]) | (with_reducible refine gOps_and (fun hq => ?_) (fun hq => ?_) <;> (try simp at hq) <;> simp -implicitDefEqProofs [*, downTo, h3, hk]) | (with_reducible refine gOps_or (fun hq => ?_) (fun hq => ?_) <;> (try simp at hq) <;> simp -implicitDefEqProofs [*, downTo, h3, hk]) | (with_reducible refine gOps_not (fun hq => ?_) (fun hq => ?_) <;> (try simp at hq) <;> simp -implicitDefEqProofs [*, downTo, h3, hk]) | (with_reducible refine gOps_split (fun hq => ?_) (fun hq => ?_) <;> (try simp at hq) <;> simp -implicitDefEqProofs [*, downTo, h3, hk]) | (with_reducible refine condC_dec (fun _ => ?_) (fun _ => ?_) <;> simp -implicitDefEqProofs [*, downTo, h3, hk]) | (with_reducible refine condC_ndec (fun _ => ?_) (fun _ => ?_) <;> simp -implicitDefEqProofs [*, downTo, h3, hk]) | (with_reducible refine condC_and (fun hq => ?_) (fun hq => ?_) <;> (try simp at hq) <;> simp -implicitDefEqProofs [*, downTo, h3, hk]) | (with_reducible refine condC_or (fun hq => ?_) (fun hq => ?_) <;> (try simp at hq) <;> simp -implicitDefEqProofs [*, downTo, h3, hk]) | (with_reducible refine condC_not (fun hq => ?_) (fun hq => ?_) <;> (try simp at hq) <;> simp -implicitDefEqProofs [*, downTo, h3, hk]) | (with_reducible refine condC_split (fun hq => ?_) (fun hq => ?_) <;> (try simp at hq) <;> simp -implicitDefEqProofs [*, downTo, h3, hk]) | (refine appK2_if (by omega) ?_; simp -implicitDefEqProofs [*, downTo, h3, hk]) | (refine pureV_if (by omega) ?_; simp -implicitDefEqProofs [*, downTo, h3, hk]))
    refine lendThen_frame [8, 4, 5, 6, 7] rfl (by decide) (by simp) c4 (by simp) (by simp [lentBs]) ?_
    simp -implicitDefEqProofs [framed]
    repeat' apply And.intro
    all_goals repeat' (first | (with_reducible refine gOps_dec (fun _ => ?_) (fun _ => ?_) <;> simp -implicitDefEqProofs [*, downTo]) | (with_reducible refine gOps_ndec (fun _ => ?_) (fun _ => ?_) <;> simp -implicitDefEqProofs [*, downTo]) | (with_reducible refine gOps_and (fun hq => ?_) (fun hq => ?_) <;> (try simp at hq) <;> simp -implicitDefEqProofs [*, downTo]) | (with_reducible refine gOps_or (fun hq => ?_) (fun hq => ?_) <;> (try simp at hq) <;> simp -implicitDefEqProofs [*, downTo]) | (with_reducible refine gOps_not (fun hq => ?_) (fun hq => ?_) <;> (try simp at hq) <;> simp -implicitDefEqProofs [*, downTo]) | (with_reducible refine gOps_split (fun hq => ?_) (fun hq => ?_) <;> (try simp at hq) <;> simp -implicitDefEqProofs [*, downTo]) | (with_reducible refine condC_dec (fun _ => ?_) (fun _ => ?_) <;> simp -implicitDefEqProofs [*, downTo]) | (with_reducible refine condC_ndec (fun _ => ?_) (fun _ => ?_) <;> simp -implicitDefEqProofs [*, downTo]) | (with_reducible refine condC_and (fun hq => ?_) (fun hq => ?_) <;> (try simp at hq) <;> simp -implicitDefEqProofs [*, downTo]) | (with_reducible refine condC_or (fun hq => ?_) (fun hq => ?_) <;> (try simp at hq) <;> simp -implicitDefEqProofs [*, downTo]) | (with_reducible refine condC_not (fun hq => ?_) (fun hq => ?_) <;> (try simp at hq) <;> simp -implicitDefEqProofs [*, downTo]) | (with_reducible refine condC_split (fun hq => ?_) (fun hq => ?_) <;> (try simp at hq) <;> simp -implicitDefEqProofs [*, downTo]) | (refine appK2_if (by omega) ?_; simp -implicitDefEqProofs [*, downTo]) | (refine pureV_if (by omega) ?_; simp -implicitDefEqProofs [*, downTo]))
theorem handle_Do_3 (x : Node) (m : Msg) (hs : x.small) (hl : m.ids.length ≤ cap) (h : doB x m = true) (hk : m.kind = 3) : Den PP 10 [nodeD x, msgD m] [] (.tup [noteD x (logPre x (mT m)) (logOf x (mT m)), .nil, .int .i64 0]) (noteB x (logPre x (mT m)) (logOf x (mT m))) := by
  have c1 := node_Up x hs
  have c2 := msg_May m hl
  obtain ⟨h1, h2, h3⟩ := doB_parts h
  have c4 := handler_tell x m hs hl (toB_ok h hk)
  rw [h1] at c1
  rw [h2] at c2
  have c3 := node_Copy x hs
  generalize logPre x (mT m) = pre at *
  generalize logOf x (mT m) = xs at *
  clear h h1 h2
  simp only [hBox, psB, xsB, nodeD, Node.cells, viewD, View.cells, peersD, intsD, itemsD, toldsD, Item.row, copyD, nodeB, noteD, noteB, msgD, Msg.row, hk, h3, List.map_cons, List.map_nil] at c1 c2 c3 c4 ⊢
  refine den_of [27] [43] is_handle_Do ?_
  simp -implicitDefEqProofs [c_handle_Do, h3, hk]
  repeat' (first | (refine callThen_of (by first | exact c1 | exact c2 | exact c3) ?_; simp -implicitDefEqProofs [*, downTo, h3, hk]) | (with_reducible refine gOps_dec (fun _ => ?_) (fun _ => ?_) <;> simp -implicitDefEqProofs [*, downTo, h3, hk]) | (with_reducible refine gOps_ndec (fun _ => ?_) (fun _ => ?_) <;> simp -implicitDefEqProofs [*, downTo, h3, hk]) | (with_reducible refine gOps_and (fun hq => ?_) (fun hq => ?_) <;> (try simp at hq) <;> simp -implicitDefEqProofs [*, downTo, h3, hk]) | (with_reducible refine gOps_or (fun hq => ?_) (fun hq => ?_) <;> (try simp at hq) <;> simp -implicitDefEqProofs [*, downTo, h3, hk]) | (with_reducible refine gOps_not (fun hq => ?_) (fun hq => ?_) <;> (try simp at hq) <;> simp -implicitDefEqProofs [*, downTo, h3, hk]) | (with_reducible refine gOps_split (fun hq => ?_) (fun hq => ?_) <;> (try simp at hq) <;> simp -implicitDefEqProofs [*, downTo, h3, hk]) | (with_reducible refine condC_dec (fun _ => ?_) (fun _ => ?_) <;> simp -implicitDefEqProofs [*, downTo, h3, hk]) | (with_reducible refine condC_ndec (fun _ => ?_) (fun _ => ?_) <;> simp -implicitDefEqProofs [*, downTo, h3, hk]) | (with_reducible refine condC_and (fun hq => ?_) (fun hq => ?_) <;> (try simp at hq) <;> simp -implicitDefEqProofs [*, downTo, h3, hk]) | (with_reducible refine condC_or (fun hq => ?_) (fun hq => ?_) <;> (try simp at hq) <;> simp -implicitDefEqProofs [*, downTo, h3, hk]) | (with_reducible refine condC_not (fun hq => ?_) (fun hq => ?_) <;> (try simp at hq) <;> simp -implicitDefEqProofs [*, downTo, h3, hk]) | (with_reducible refine condC_split (fun hq => ?_) (fun hq => ?_) <;> (try simp at hq) <;> simp -implicitDefEqProofs [*, downTo, h3, hk]) | (refine appK2_if (by omega) ?_; simp -implicitDefEqProofs [*, downTo, h3, hk]) | (refine pureV_if (by omega) ?_; simp -implicitDefEqProofs [*, downTo, h3, hk]))
  refine lendThen_frame [8, 4, 5, 6, 7] rfl (by decide) (by simp) c4 (by simp) (by simp [lentBs]) ?_
  simp -implicitDefEqProofs [framed]
  repeat' apply And.intro
  all_goals repeat' (first | (with_reducible refine gOps_dec (fun _ => ?_) (fun _ => ?_) <;> simp -implicitDefEqProofs [*, downTo]) | (with_reducible refine gOps_ndec (fun _ => ?_) (fun _ => ?_) <;> simp -implicitDefEqProofs [*, downTo]) | (with_reducible refine gOps_and (fun hq => ?_) (fun hq => ?_) <;> (try simp at hq) <;> simp -implicitDefEqProofs [*, downTo]) | (with_reducible refine gOps_or (fun hq => ?_) (fun hq => ?_) <;> (try simp at hq) <;> simp -implicitDefEqProofs [*, downTo]) | (with_reducible refine gOps_not (fun hq => ?_) (fun hq => ?_) <;> (try simp at hq) <;> simp -implicitDefEqProofs [*, downTo]) | (with_reducible refine gOps_split (fun hq => ?_) (fun hq => ?_) <;> (try simp at hq) <;> simp -implicitDefEqProofs [*, downTo]) | (with_reducible refine condC_dec (fun _ => ?_) (fun _ => ?_) <;> simp -implicitDefEqProofs [*, downTo]) | (with_reducible refine condC_ndec (fun _ => ?_) (fun _ => ?_) <;> simp -implicitDefEqProofs [*, downTo]) | (with_reducible refine condC_and (fun hq => ?_) (fun hq => ?_) <;> (try simp at hq) <;> simp -implicitDefEqProofs [*, downTo]) | (with_reducible refine condC_or (fun hq => ?_) (fun hq => ?_) <;> (try simp at hq) <;> simp -implicitDefEqProofs [*, downTo]) | (with_reducible refine condC_not (fun hq => ?_) (fun hq => ?_) <;> (try simp at hq) <;> simp -implicitDefEqProofs [*, downTo]) | (with_reducible refine condC_split (fun hq => ?_) (fun hq => ?_) <;> (try simp at hq) <;> simp -implicitDefEqProofs [*, downTo]) | (refine appK2_if (by omega) ?_; simp -implicitDefEqProofs [*, downTo]) | (refine pureV_if (by omega) ?_; simp -implicitDefEqProofs [*, downTo]))
end Go.AM
/- Plain law: greetings, told twice, told in another row. -/
namespace Go.AM
set_option linter.unusedSimpArgs false
set_option linter.unusedVariables false

theorem tells_noop {w : View} : ∀ {ids : List Int}, (∀ x ∈ ids, tellV w x = w) → ids.foldl tellV w = w := by
  intro ids
  induction ids with
  | nil => intro _; rfl
  | cons x ids ih => intro h; rw [List.foldl_cons, h x (by simp), ih (fun y hy => h y (by simp [hy]))]
theorem tellV_noop {w : View} {x : Int} (h : x = w.id ∨ knowsV w x = true ∨ 16 ≤ sizeV w) : tellV w x = w := by
  rcases h with h | h | h
  · unfold tellV; simp [h]
  · unfold tellV; simp [h]
  · unfold tellV
    split
    · rename_i hc
      simp only [Bool.and_eq_true, Bool.not_eq_true'] at hc
      apply knownV_no
      unfold roomV
      rw [hc.2]
      unfold sizeV at h
      simp
      omega
    · rfl
theorem tells_stay {w : View} (h : 16 ≤ sizeV w) (ids : List Int) : ids.foldl tellV w = w := tells_noop fun x _ => tellV_noop (.inr (.inr h))
theorem roomV_no_size {v : View} {a : Int} (h : roomV v a = false) : 16 ≤ sizeV v := by
  unfold roomV at h
  simp at h
  unfold sizeV
  exact h.2
structure Greeted (v : View) (a : Int) (ids : List Int) (w : View) : Prop where
  may : viewMay w = true
  id : w.id = v.id
  peers : ∀ q, q ∈ w.peers → q = ⟨a, 0⟩ ∨ (q ∈ v.peers ∧ q.id ≠ a) ∨ (q.missed = 0 ∧ q.id ∈ ids ∧ q.id ≠ v.id ∧ q.id ≠ a ∧ knowsV v q.id = false)
  kept : ∀ q, q ∈ v.peers → q.id ≠ a → q ∈ w.peers
  heard : ⟨a, 0⟩ ∈ w.peers
  passive : ∀ y, y ∈ w.passive ↔ y ∈ v.passive ∧ y ≠ a
  told : ∀ x ∈ ids, x = v.id ∨ knowsV w x = true ∨ 16 ≤ sizeV w
  size : sizeV w ≤ sizeV v + 1 + ids.length
theorem hello_greeted {v : View} {a : Int} {ids : List Int} (h : helloOk v a ids = true) (hr : roomV v a = true) : Greeted v a ids (helloV v a ids) := by
  obtain ⟨h1, h2, h3, h4, h5⟩ := helloOk_parts h
  obtain ⟨m1, m2⟩ := helloV_may h
  have hw := (knownV_may h1 h2 h3).1
  obtain ⟨a1, a2, a3, a4, a5, a6⟩ := tells_mem ids (knownV v a) hw h5
  have hk : knowsV (knownV v a) a = true := (knowsV_iff _ _).2 (.inl ⟨⟨a, 0⟩, (knownV_peers hr _).2 (.inl rfl), rfl⟩)
  have hid := knownV_id v a
  refine ⟨m1, m2, ?_, ?_, ?_, ?_, ?_, ?_⟩
  · intro q hq
    rcases a5 q hq with h | ⟨b1, b2, b3, b4⟩
    · rcases (knownV_peers hr q).1 h with h | h
      · exact .inl h
      · exact .inr (.inl h)
    · have hqa : q.id ≠ a := by intro e; rw [e, hk] at b4; cases b4
      refine .inr (.inr ⟨b1, b2, by rw [hid] at b3; exact b3, hqa, ?_⟩)
      cases hkv : knowsV v q.id with
      | false => rfl
      | true =>
        have : knowsV (knownV v a) q.id = true := by
          rw [knowsV_iff] at hkv ⊢
          rcases hkv with ⟨p, hp, he⟩ | hp
          · exact .inl ⟨p, (knownV_peers hr p).2 (.inr ⟨hp, by rw [he]; exact hqa⟩), he⟩
          · exact .inr ((knownV_passive hr _).2 ⟨hp, hqa⟩)
        rw [this] at b4; cases b4
  · intro q hq hn
    exact a1 q ((knownV_peers hr q).2 (.inr ⟨hq, hn⟩))
  · exact a1 _ ((knownV_peers hr _).2 (.inl rfl))
  · intro y
    show y ∈ (ids.foldl tellV (knownV v a)).passive ↔ _
    rw [a2, knownV_passive hr]
  · intro x hx
    have := a6 x hx
    rw [hid] at this
    exact this
  · have := knownV_size h1 hr
    show sizeV (ids.foldl tellV (knownV v a)) ≤ _
    split at this <;> omega
theorem helloOk_again {v : View} {a b : Int} {ids : List Int} (h : helloOk v a ids = true) : helloOk (helloV v a ids) b ids = helloOk v b ids := by
  obtain ⟨m1, m2⟩ := helloV_may h
  have h1 := (helloOk_parts h).1
  unfold helloOk
  rw [m1, m2, h1]
theorem hello_twice {v : View} {a : Int} {ids : List Int} (h : helloOk v a ids = true) : helloV (helloV v a ids) a ids = helloV v a ids := by
  cases hr : roomV v a with
  | false =>
    have hs := roomV_no_size hr
    have e : helloV v a ids = v := by unfold helloV; rw [knownV_no hr, tells_stay hs]
    rw [e, e]
  | true =>
    have g := hello_greeted h hr
    have hok : helloOk (helloV v a ids) a ids = true := by rw [helloOk_again h]; exact h
    obtain ⟨h1, h2, h3, h4, h5⟩ := helloOk_parts hok
    generalize helloV v a ids = w at *
    have hna : a ∉ w.passive := by intro ha; exact ((g.passive a).1 ha).2 rfl
    have hrw : roomV w a = true := by
      unfold roomV
      rw [(knowsV_iff w a).2 (.inl ⟨_, g.heard, rfl⟩)]
      rfl
    have hpm := (viewMay_parts g.may).1
    have e1 : knownV w a = w := by
      refine view_ext (knownV_may h1 h2 h3).1 g.may (knownV_id w a) (fun q => ?_) (fun y => ?_)
      · rw [knownV_peers hrw]
        constructor
        · rintro (rfl | ⟨h, _⟩)
          · exact g.heard
          · exact h
        · intro hq
          by_cases he : q.id = a
          · exact .inl (peer_uniq hpm hq g.heard he)
          · exact .inr ⟨hq, he⟩
      · rw [knownV_passive hrw]
        constructor
        · exact fun h => h.1
        · intro hy
          refine ⟨hy, ?_⟩
          rintro rfl
          exact hna hy
    unfold helloV
    rw [e1]
    refine tells_noop fun x hx => tellV_noop ?_
    rcases g.told x hx with h | h | h
    · exact .inl (by rw [g.id]; exact h)
    · exact .inr (.inl h)
    · exact .inr (.inr h)
end Go.AM
/- AM: chapter 22's statements: HandleForms, HandleTwice. -/
namespace Go.AM
set_option linter.unusedSimpArgs false
set_option linter.unusedVariables false
set_option maxRecDepth 8000
set_option maxHeartbeats 0
theorem law22_it (k c : Int) : Den PP 9 [.int .i64 k, .int .i64 c] [] (.agg (itT k c).row) [] := by
  refine den_of [] [] is_gimmallaw22_it ?_
  simp -implicitDefEqProofs [c_gimmallaw22_it, itT, Item.row]
theorem law22_node100 : Den PP 8 [] [] (.agg [.bool true, .int .i64 100, .ref 0 0 3, .ref 1 0 1, .ref 2 0 3, .nil]) [⟨nodeT.view.peers.map Peer.row, 2, .mut⟩, ⟨nodeT.view.passive.map irow, 1, .mut⟩, ⟨nodeT.items.map Item.row, 5, .mut⟩] := by
  have i1 := law22_it 95 1
  have i2 := law22_it 99 3
  have i3 := law22_it 250 2
  simp [itT, Item.row] at i1 i2 i3
  refine den_of [] [] is_gimmallaw22_node100 ?_
  simp -implicitDefEqProofs [c_gimmallaw22_node100, nodeT, Peer.row, irow, Item.row]
  repeat' (first | (refine callThen_of (by first | exact i1 | exact i2 | exact i3) ?_; simp -implicitDefEqProofs [*, nodeT, Peer.row, irow, Item.row]) | (with_reducible refine gOps_dec (fun _ => ?_) (fun _ => ?_) <;> simp -implicitDefEqProofs [*, nodeT, Peer.row, irow, Item.row]) | (with_reducible refine gOps_ndec (fun _ => ?_) (fun _ => ?_) <;> simp -implicitDefEqProofs [*, nodeT, Peer.row, irow, Item.row]) | (with_reducible refine gOps_and (fun hq => ?_) (fun hq => ?_) <;> (try simp at hq) <;> simp -implicitDefEqProofs [*, nodeT, Peer.row, irow, Item.row]) | (with_reducible refine gOps_or (fun hq => ?_) (fun hq => ?_) <;> (try simp at hq) <;> simp -implicitDefEqProofs [*, nodeT, Peer.row, irow, Item.row]) | (with_reducible refine gOps_not (fun hq => ?_) (fun hq => ?_) <;> (try simp at hq) <;> simp -implicitDefEqProofs [*, nodeT, Peer.row, irow, Item.row]) | (with_reducible refine gOps_split (fun hq => ?_) (fun hq => ?_) <;> (try simp at hq) <;> simp -implicitDefEqProofs [*, nodeT, Peer.row, irow, Item.row]) | (with_reducible refine condC_dec (fun _ => ?_) (fun _ => ?_) <;> simp -implicitDefEqProofs [*, nodeT, Peer.row, irow, Item.row]) | (with_reducible refine condC_ndec (fun _ => ?_) (fun _ => ?_) <;> simp -implicitDefEqProofs [*, nodeT, Peer.row, irow, Item.row]) | (with_reducible refine condC_and (fun hq => ?_) (fun hq => ?_) <;> (try simp at hq) <;> simp -implicitDefEqProofs [*, nodeT, Peer.row, irow, Item.row]) | (with_reducible refine condC_or (fun hq => ?_) (fun hq => ?_) <;> (try simp at hq) <;> simp -implicitDefEqProofs [*, nodeT, Peer.row, irow, Item.row]) | (with_reducible refine condC_not (fun hq => ?_) (fun hq => ?_) <;> (try simp at hq) <;> simp -implicitDefEqProofs [*, nodeT, Peer.row, irow, Item.row]) | (with_reducible refine condC_split (fun hq => ?_) (fun hq => ?_) <;> (try simp at hq) <;> simp -implicitDefEqProofs [*, nodeT, Peer.row, irow, Item.row]) | (refine appK2_if (by omega) ?_; simp -implicitDefEqProofs [*, nodeT, Peer.row, irow, Item.row]) | (refine pureV_if (by omega) ?_; simp -implicitDefEqProofs [*, nodeT, Peer.row, irow, Item.row]))
theorem law22_awake : Den PP 7 [] [] (.bool true) [] := by
  have g0 := law22_node100
  have g1 := handle_Do_0 nodeT ⟨0, 7, 100, [30], 0, zeroItem, false⟩ small_nodeT (by unfold cap; simp) (by decide +kernel) rfl
  obtain ⟨kk, hkk, g2⟩ := handle_Do_2 nodeT ⟨2, 7, 100, [], 95, zeroItem, false⟩ small_nodeT (by unfold cap; simp) (by decide +kernel) rfl
  have g3 := handle_Do_no nodeT ⟨0, 7, 101, [], 0, zeroItem, false⟩ small_nodeT (by unfold cap; simp) (by decide +kernel)
  have g4 := law_SameNode nodeT nodeT small_nodeT
  have e1 : helloV nodeT.view 7 [30] = ⟨100, [⟨101, 2⟩, ⟨200, 0⟩, ⟨7, 0⟩, ⟨30, 0⟩, ⟨90, 1⟩], []⟩ := by decide +kernel
  have e2 : tellOf nodeT ⟨2, 7, 100, [], 95, zeroItem, false⟩ = ⟨3, 100, 7, [], 95, itT 95 1, true⟩ := by decide +kernel
  simp only at g1
  rw [e1] at g1
  rw [e2] at g2
  clear e1 e2
  simp [copyD, nodeB, nodeD, Node.cells, viewD, View.cells, peersD, intsD, itemsD, toldsD, nodeT, itT, zeroItem, msgD, Msg.row, Msg.row0, Peer.row, irow, Item.row] at g0 g1 g2 g3 g4
  refine den_of [] [] is_gimmallaw22_awake ?_
  cases kk <;> simp [Kind.isBox] at hkk
  all_goals
    simp -implicitDefEqProofs [c_gimmallaw22_awake]
    repeat' (first | (refine callThen_of (by first | exact g0 | exact g1 | exact den_nrm (g1) | exact den_nrm (by simpa using g1) | exact g2 | exact den_nrm (g2) | exact den_nrm (by simpa using g2) | exact g3 | exact den_nrm (g3) | exact den_nrm (by simpa using g3) | exact g4 | exact den_nrm (g4) | exact den_nrm (by simpa using g4) | exact law_Num _) ?_; simp -implicitDefEqProofs [*, downTo]) | (with_reducible refine gOps_dec (fun _ => ?_) (fun _ => ?_) <;> simp -implicitDefEqProofs [*, downTo]) | (with_reducible refine gOps_ndec (fun _ => ?_) (fun _ => ?_) <;> simp -implicitDefEqProofs [*, downTo]) | (with_reducible refine gOps_and (fun hq => ?_) (fun hq => ?_) <;> (try simp at hq) <;> simp -implicitDefEqProofs [*, downTo]) | (with_reducible refine gOps_or (fun hq => ?_) (fun hq => ?_) <;> (try simp at hq) <;> simp -implicitDefEqProofs [*, downTo]) | (with_reducible refine gOps_not (fun hq => ?_) (fun hq => ?_) <;> (try simp at hq) <;> simp -implicitDefEqProofs [*, downTo]) | (with_reducible refine gOps_split (fun hq => ?_) (fun hq => ?_) <;> (try simp at hq) <;> simp -implicitDefEqProofs [*, downTo]) | (with_reducible refine condC_dec (fun _ => ?_) (fun _ => ?_) <;> simp -implicitDefEqProofs [*, downTo]) | (with_reducible refine condC_ndec (fun _ => ?_) (fun _ => ?_) <;> simp -implicitDefEqProofs [*, downTo]) | (with_reducible refine condC_and (fun hq => ?_) (fun hq => ?_) <;> (try simp at hq) <;> simp -implicitDefEqProofs [*, downTo]) | (with_reducible refine condC_or (fun hq => ?_) (fun hq => ?_) <;> (try simp at hq) <;> simp -implicitDefEqProofs [*, downTo]) | (with_reducible refine condC_not (fun hq => ?_) (fun hq => ?_) <;> (try simp at hq) <;> simp -implicitDefEqProofs [*, downTo]) | (with_reducible refine condC_split (fun hq => ?_) (fun hq => ?_) <;> (try simp at hq) <;> simp -implicitDefEqProofs [*, downTo]) | (refine appK2_if (by omega) ?_; simp -implicitDefEqProofs [*, downTo]) | (refine pureV_if (by omega) ?_; simp -implicitDefEqProofs [*, downTo]))
@[simp] theorem nrmLL_repH (n : Nat) (r : List D) : nrmLL (List.replicate n r) = List.replicate n (nrmL r) := by
  induction n with
  | zero => rfl
  | succ n ih => simp [List.replicate_succ, nrmLL, ih]
theorem law22_HandleTwice_no (x : Node) (m : Msg) (hs : x.small) (hl : m.ids.length ≤ cap) (h : doB x m = false) : Den PP 5 [nodeD x, msgD m] [] (.bool true) [] := by
  have c1 := handle_Do_no x m hs hl h
  have n1 := law_SameNode zeroNode zeroNode small_zero
  clear h
  simp only [zeroNode, copyD, nodeB, nodeD, Node.cells, viewD, View.cells, peersD, intsD, itemsD, toldsD, msgD, Msg.row, List.map_nil, List.length_nil] at c1 n1 ⊢
  refine den_of [] [] is_gimmallaw22_HandleTwice ?_
  simp -implicitDefEqProofs [c_gimmallaw22_HandleTwice]
  repeat' (first | (refine callThen_of (by first | exact law22_awake | exact c1 | exact den_nrm (c1) | exact den_nrm (by simpa using c1) | exact n1 | exact den_nrm (n1) | exact den_nrm (by simpa using n1) | exact law_Num _) ?_; simp -implicitDefEqProofs [*, downTo]) | (with_reducible refine gOps_dec (fun _ => ?_) (fun _ => ?_) <;> simp -implicitDefEqProofs [*, downTo]) | (with_reducible refine gOps_ndec (fun _ => ?_) (fun _ => ?_) <;> simp -implicitDefEqProofs [*, downTo]) | (with_reducible refine gOps_and (fun hq => ?_) (fun hq => ?_) <;> (try simp at hq) <;> simp -implicitDefEqProofs [*, downTo]) | (with_reducible refine gOps_or (fun hq => ?_) (fun hq => ?_) <;> (try simp at hq) <;> simp -implicitDefEqProofs [*, downTo]) | (with_reducible refine gOps_not (fun hq => ?_) (fun hq => ?_) <;> (try simp at hq) <;> simp -implicitDefEqProofs [*, downTo]) | (with_reducible refine gOps_split (fun hq => ?_) (fun hq => ?_) <;> (try simp at hq) <;> simp -implicitDefEqProofs [*, downTo]) | (with_reducible refine condC_dec (fun _ => ?_) (fun _ => ?_) <;> simp -implicitDefEqProofs [*, downTo]) | (with_reducible refine condC_ndec (fun _ => ?_) (fun _ => ?_) <;> simp -implicitDefEqProofs [*, downTo]) | (with_reducible refine condC_and (fun hq => ?_) (fun hq => ?_) <;> (try simp at hq) <;> simp -implicitDefEqProofs [*, downTo]) | (with_reducible refine condC_or (fun hq => ?_) (fun hq => ?_) <;> (try simp at hq) <;> simp -implicitDefEqProofs [*, downTo]) | (with_reducible refine condC_not (fun hq => ?_) (fun hq => ?_) <;> (try simp at hq) <;> simp -implicitDefEqProofs [*, downTo]) | (with_reducible refine condC_split (fun hq => ?_) (fun hq => ?_) <;> (try simp at hq) <;> simp -implicitDefEqProofs [*, downTo]) | (refine appK2_if (by omega) ?_; simp -implicitDefEqProofs [*, downTo]) | (refine pureV_if (by omega) ?_; simp -implicitDefEqProofs [*, downTo]))
theorem law22_HandleTwice_0 (x : Node) (m : Msg) (hs : x.small) (hl : m.ids.length ≤ cap) (h : doB x m = true) (hk : m.kind = 0) : Den PP 5 [nodeD x, msgD m] [] (.bool true) [] := by
  obtain ⟨h1, h2, h3⟩ := doB_parts h
  have hok := hello_ok h1 h2 hk h3
  obtain ⟨m1, m2⟩ := helloV_may hok
  obtain ⟨p1, p2, p3, p4, p5⟩ := nodeUp_parts h1
  have hu : nodeUp { x with view := helloV x.view m.from_ m.ids } = true := nodeUp_of p1 m1 p3 p4 p5
  have hsm := nodeUp_small2 hu
  have c1 := handle_Do_0 x m hs hl h hk
  have c2 := handle_Do_0 { x with view := helloV x.view m.from_ m.ids } m hsm hl (by simp only [doB, hu, h2, m2, h3]; simp) hk
  simp only at c2
  rw [hello_twice hok] at c2
  have n1 := law_SameNode _ { x with view := helloV x.view m.from_ m.ids } hsm
  generalize helloV x.view m.from_ m.ids = w at *
  clear h h1 h2 h3 hok m1 m2 p1 p2 p3 p4 p5 hu hsm
  simp only [copyD, nodeB, nodeD, Node.cells, viewD, View.cells, peersD, intsD, itemsD, toldsD, noteD, noteB, msgD, Msg.row, hk, List.map_cons, List.map_nil] at c1 c2 n1 ⊢
  refine den_of [] [] is_gimmallaw22_HandleTwice ?_
  simp -implicitDefEqProofs [c_gimmallaw22_HandleTwice, hk]
  repeat' (first | (refine callThen_of (by first | exact law22_awake | exact c1 | exact c2 | exact n1 | exact law_Num _) ?_; simp -implicitDefEqProofs [*, downTo, hk]) | (with_reducible refine gOps_dec (fun _ => ?_) (fun _ => ?_) <;> simp -implicitDefEqProofs [*, downTo, hk]) | (with_reducible refine gOps_ndec (fun _ => ?_) (fun _ => ?_) <;> simp -implicitDefEqProofs [*, downTo, hk]) | (with_reducible refine gOps_and (fun hq => ?_) (fun hq => ?_) <;> (try simp at hq) <;> simp -implicitDefEqProofs [*, downTo, hk]) | (with_reducible refine gOps_or (fun hq => ?_) (fun hq => ?_) <;> (try simp at hq) <;> simp -implicitDefEqProofs [*, downTo, hk]) | (with_reducible refine gOps_not (fun hq => ?_) (fun hq => ?_) <;> (try simp at hq) <;> simp -implicitDefEqProofs [*, downTo, hk]) | (with_reducible refine gOps_split (fun hq => ?_) (fun hq => ?_) <;> (try simp at hq) <;> simp -implicitDefEqProofs [*, downTo, hk]) | (with_reducible refine condC_dec (fun _ => ?_) (fun _ => ?_) <;> simp -implicitDefEqProofs [*, downTo, hk]) | (with_reducible refine condC_ndec (fun _ => ?_) (fun _ => ?_) <;> simp -implicitDefEqProofs [*, downTo, hk]) | (with_reducible refine condC_and (fun hq => ?_) (fun hq => ?_) <;> (try simp at hq) <;> simp -implicitDefEqProofs [*, downTo, hk]) | (with_reducible refine condC_or (fun hq => ?_) (fun hq => ?_) <;> (try simp at hq) <;> simp -implicitDefEqProofs [*, downTo, hk]) | (with_reducible refine condC_not (fun hq => ?_) (fun hq => ?_) <;> (try simp at hq) <;> simp -implicitDefEqProofs [*, downTo, hk]) | (with_reducible refine condC_split (fun hq => ?_) (fun hq => ?_) <;> (try simp at hq) <;> simp -implicitDefEqProofs [*, downTo, hk]) | (refine appK2_if (by omega) ?_; simp -implicitDefEqProofs [*, downTo, hk]) | (refine pureV_if (by omega) ?_; simp -implicitDefEqProofs [*, downTo, hk]))
theorem law22_HandleTwice_1 (x : Node) (m : Msg) (hs : x.small) (hl : m.ids.length ≤ cap) (h : doB x m = true) (hk : m.kind = 1) : Den PP 5 [nodeD x, msgD m] [] (.bool true) [] := by
  obtain ⟨h1, h2, h3⟩ := doB_parts h
  have hi := item_ok h2 hk
  obtain ⟨p1, p2, p3, p4, p5⟩ := nodeUp_parts h1
  have hu : nodeUp (takeI x m.item) = true := takeI_up h1
  have hsm := nodeUp_small2 hu
  have e2 : takeI (takeI x m.item) m.item = takeI x m.item := by
    rw [takeI_S, takeI_S]
    simp only
    rw [takeS_again p3 hi]
  have hv2 : (takeI x m.item).view.id = x.view.id := by rw [takeI_S]
  have c1 := handle_Do_1 x m hs hl h hk
  have c2 := handle_Do_1 (takeI x m.item) m hsm hl (by simp only [doB, hu, h2, hv2, h3]; simp) hk
  rw [e2] at c2
  have n1 := law_SameNode _ (takeI x m.item) hsm
  generalize takeI x m.item = y at *
  clear h h1 h2 h3 p1 p2 p3 p4 p5 hu hsm e2 hi hv2
  simp only [copyD, nodeB, nodeD, Node.cells, viewD, View.cells, peersD, intsD, itemsD, toldsD, noteD, noteB, msgD, Msg.row, hk, List.map_cons, List.map_nil] at c1 c2 n1 ⊢
  refine den_of [] [] is_gimmallaw22_HandleTwice ?_
  simp -implicitDefEqProofs [c_gimmallaw22_HandleTwice, hk]
  repeat' (first | (refine callThen_of (by first | exact law22_awake | exact c1 | exact c2 | exact n1 | exact law_Num _) ?_; simp -implicitDefEqProofs [*, downTo, hk]) | (with_reducible refine gOps_dec (fun _ => ?_) (fun _ => ?_) <;> simp -implicitDefEqProofs [*, downTo, hk]) | (with_reducible refine gOps_ndec (fun _ => ?_) (fun _ => ?_) <;> simp -implicitDefEqProofs [*, downTo, hk]) | (with_reducible refine gOps_and (fun hq => ?_) (fun hq => ?_) <;> (try simp at hq) <;> simp -implicitDefEqProofs [*, downTo, hk]) | (with_reducible refine gOps_or (fun hq => ?_) (fun hq => ?_) <;> (try simp at hq) <;> simp -implicitDefEqProofs [*, downTo, hk]) | (with_reducible refine gOps_not (fun hq => ?_) (fun hq => ?_) <;> (try simp at hq) <;> simp -implicitDefEqProofs [*, downTo, hk]) | (with_reducible refine gOps_split (fun hq => ?_) (fun hq => ?_) <;> (try simp at hq) <;> simp -implicitDefEqProofs [*, downTo, hk]) | (with_reducible refine condC_dec (fun _ => ?_) (fun _ => ?_) <;> simp -implicitDefEqProofs [*, downTo, hk]) | (with_reducible refine condC_ndec (fun _ => ?_) (fun _ => ?_) <;> simp -implicitDefEqProofs [*, downTo, hk]) | (with_reducible refine condC_and (fun hq => ?_) (fun hq => ?_) <;> (try simp at hq) <;> simp -implicitDefEqProofs [*, downTo, hk]) | (with_reducible refine condC_or (fun hq => ?_) (fun hq => ?_) <;> (try simp at hq) <;> simp -implicitDefEqProofs [*, downTo, hk]) | (with_reducible refine condC_not (fun hq => ?_) (fun hq => ?_) <;> (try simp at hq) <;> simp -implicitDefEqProofs [*, downTo, hk]) | (with_reducible refine condC_split (fun hq => ?_) (fun hq => ?_) <;> (try simp at hq) <;> simp -implicitDefEqProofs [*, downTo, hk]) | (refine appK2_if (by omega) ?_; simp -implicitDefEqProofs [*, downTo, hk]) | (refine pureV_if (by omega) ?_; simp -implicitDefEqProofs [*, downTo, hk]))
theorem law22_HandleTwice_2 (x : Node) (m : Msg) (hs : x.small) (hl : m.ids.length ≤ cap) (h : doB x m = true) (hk : m.kind = 2) : Den PP 5 [nodeD x, msgD m] [] (.bool true) [] := by
  obtain ⟨h1, h2, h3⟩ := doB_parts h
  obtain ⟨kk, hkk, c1⟩ := handle_Do_2 x m hs hl h hk
  have n1 := law_SameNode x x hs
  generalize tellOf x m = t at *
  clear h h1 h2 h3
  simp only [copyD, nodeB, nodeD, Node.cells, viewD, View.cells, peersD, intsD, itemsD, toldsD, noteD, noteB, msgD, Msg.row, hk, List.map_cons, List.map_nil] at c1 n1 ⊢
  refine den_of [] [] is_gimmallaw22_HandleTwice ?_
  cases kk <;> simp [Kind.isBox] at hkk
  all_goals
    simp -implicitDefEqProofs [c_gimmallaw22_HandleTwice, hk]
    repeat' (first | (refine callThen_of (by first | exact law22_awake | exact c1 | exact n1 | exact law_Num _) ?_; simp -implicitDefEqProofs [*, downTo, hk]) | (with_reducible refine gOps_dec (fun _ => ?_) (fun _ => ?_) <;> simp -implicitDefEqProofs [*, downTo, hk]) | (with_reducible refine gOps_ndec (fun _ => ?_) (fun _ => ?_) <;> simp -implicitDefEqProofs [*, downTo, hk]) | (with_reducible refine gOps_and (fun hq => ?_) (fun hq => ?_) <;> (try simp at hq) <;> simp -implicitDefEqProofs [*, downTo, hk]) | (with_reducible refine gOps_or (fun hq => ?_) (fun hq => ?_) <;> (try simp at hq) <;> simp -implicitDefEqProofs [*, downTo, hk]) | (with_reducible refine gOps_not (fun hq => ?_) (fun hq => ?_) <;> (try simp at hq) <;> simp -implicitDefEqProofs [*, downTo, hk]) | (with_reducible refine gOps_split (fun hq => ?_) (fun hq => ?_) <;> (try simp at hq) <;> simp -implicitDefEqProofs [*, downTo, hk]) | (with_reducible refine condC_dec (fun _ => ?_) (fun _ => ?_) <;> simp -implicitDefEqProofs [*, downTo, hk]) | (with_reducible refine condC_ndec (fun _ => ?_) (fun _ => ?_) <;> simp -implicitDefEqProofs [*, downTo, hk]) | (with_reducible refine condC_and (fun hq => ?_) (fun hq => ?_) <;> (try simp at hq) <;> simp -implicitDefEqProofs [*, downTo, hk]) | (with_reducible refine condC_or (fun hq => ?_) (fun hq => ?_) <;> (try simp at hq) <;> simp -implicitDefEqProofs [*, downTo, hk]) | (with_reducible refine condC_not (fun hq => ?_) (fun hq => ?_) <;> (try simp at hq) <;> simp -implicitDefEqProofs [*, downTo, hk]) | (with_reducible refine condC_split (fun hq => ?_) (fun hq => ?_) <;> (try simp at hq) <;> simp -implicitDefEqProofs [*, downTo, hk]) | (refine appK2_if (by omega) ?_; simp -implicitDefEqProofs [*, downTo, hk]) | (refine pureV_if (by omega) ?_; simp -implicitDefEqProofs [*, downTo, hk]))
theorem law22_HandleTwice_3 (x : Node) (m : Msg) (hs : x.small) (hl : m.ids.length ≤ cap) (h : doB x m = true) (hk : m.kind = 3) : Den PP 5 [nodeD x, msgD m] [] (.bool true) [] := by
  obtain ⟨h1, h2, h3⟩ := doB_parts h
  have c1 := handle_Do_3 x m hs hl h hk
  generalize logPre x (mT m) = pre at *
  generalize logOf x (mT m) = xs at *
  clear h h1 h2 h3
  simp only [copyD, nodeB, nodeD, Node.cells, viewD, View.cells, peersD, intsD, itemsD, toldsD, noteD, noteB, msgD, Msg.row, hk, List.map_cons, List.map_nil] at c1 ⊢
  refine den_of [] [] is_gimmallaw22_HandleTwice ?_
  simp -implicitDefEqProofs [c_gimmallaw22_HandleTwice, hk]
  repeat' (first | (refine callThen_of (by first | exact law22_awake | exact c1 | exact law_Num _) ?_; simp -implicitDefEqProofs [*, downTo, hk]) | (with_reducible refine gOps_dec (fun _ => ?_) (fun _ => ?_) <;> simp -implicitDefEqProofs [*, downTo, hk]) | (with_reducible refine gOps_ndec (fun _ => ?_) (fun _ => ?_) <;> simp -implicitDefEqProofs [*, downTo, hk]) | (with_reducible refine gOps_and (fun hq => ?_) (fun hq => ?_) <;> (try simp at hq) <;> simp -implicitDefEqProofs [*, downTo, hk]) | (with_reducible refine gOps_or (fun hq => ?_) (fun hq => ?_) <;> (try simp at hq) <;> simp -implicitDefEqProofs [*, downTo, hk]) | (with_reducible refine gOps_not (fun hq => ?_) (fun hq => ?_) <;> (try simp at hq) <;> simp -implicitDefEqProofs [*, downTo, hk]) | (with_reducible refine gOps_split (fun hq => ?_) (fun hq => ?_) <;> (try simp at hq) <;> simp -implicitDefEqProofs [*, downTo, hk]) | (with_reducible refine condC_dec (fun _ => ?_) (fun _ => ?_) <;> simp -implicitDefEqProofs [*, downTo, hk]) | (with_reducible refine condC_ndec (fun _ => ?_) (fun _ => ?_) <;> simp -implicitDefEqProofs [*, downTo, hk]) | (with_reducible refine condC_and (fun hq => ?_) (fun hq => ?_) <;> (try simp at hq) <;> simp -implicitDefEqProofs [*, downTo, hk]) | (with_reducible refine condC_or (fun hq => ?_) (fun hq => ?_) <;> (try simp at hq) <;> simp -implicitDefEqProofs [*, downTo, hk]) | (with_reducible refine condC_not (fun hq => ?_) (fun hq => ?_) <;> (try simp at hq) <;> simp -implicitDefEqProofs [*, downTo, hk]) | (with_reducible refine condC_split (fun hq => ?_) (fun hq => ?_) <;> (try simp at hq) <;> simp -implicitDefEqProofs [*, downTo, hk]) | (refine appK2_if (by omega) ?_; simp -implicitDefEqProofs [*, downTo, hk]) | (refine pureV_if (by omega) ?_; simp -implicitDefEqProofs [*, downTo, hk]))
theorem law22_HandleTwice (x : Node) (m : Msg) (hs : x.small) (hl : m.ids.length ≤ cap) : Den PP 5 [nodeD x, msgD m] [] (.bool true) [] := by
  cases h : doB x m with
  | false => exact law22_HandleTwice_no x m hs hl h
  | true =>
    rcases kind_cases (doB_parts h).2.1 with hk | hk | hk | hk
    · exact law22_HandleTwice_0 x m hs hl h hk
    · exact law22_HandleTwice_1 x m hs hl h hk
    · exact law22_HandleTwice_2 x m hs hl h hk
    · exact law22_HandleTwice_3 x m hs hl h hk
end Go.AM
/- AM: chapter 22's statements: HandleOne, HandleKnows. -/
namespace Go.AM
set_option linter.unusedSimpArgs false
set_option linter.unusedVariables false
set_option maxRecDepth 8000
set_option maxHeartbeats 0
end Go.AM
/- AM: messages handed in. -/
namespace Go.AM
set_option linter.unusedSimpArgs false
set_option linter.unusedVariables false
set_option maxRecDepth 8000
set_option maxHeartbeats 0
def Msg.tame (m : Msg) : Prop := m.ids.length * 8 ≤ 140737488351232 ∧ (∀ x ∈ m.ids, in64 x) ∧ in64 m.kind ∧ in64 m.from_ ∧ in64 m.to ∧ in64 m.key ∧ m.item.tame
theorem Msg.tame.ids {m : Msg} (h : m.tame) : m.ids.length ≤ cap := by
  have := h.1
  unfold cap
  omega
theorem tell_Msg {n : Nat} {cs : List D} (h : Tell TT (n + 4) 38 cs) : ∃ m : Msg, cs = m.row ∧ m.tame := by
  unfold Tell at h
  simp [Tell.TellFs] at h
  obtain ⟨a, r1, rfl, h1, b, r2, rfl, h2, c, r3, rfl, h3, d, r4, rfl, h4, e, r5, rfl, h5, f, g, rfl, h6, h7⟩ := h
  obtain ⟨k, rfl, hk⟩ := tell_int h1
  obtain ⟨u, rfl, hu⟩ := tell_int h2
  obtain ⟨v, rfl, hv⟩ := tell_int h3
  obtain ⟨is, rfl, h8, h9⟩ := tell_ints h4
  obtain ⟨w, rfl, hw⟩ := tell_int h5
  obtain ⟨i, rfl, hi⟩ := tell_Item h6
  obtain ⟨b, rfl⟩ := tell_bool h7
  exact ⟨⟨k, u, v, is, w, i, b⟩, rfl, h8, h9, hk, hu, hv, hw, hi⟩
theorem arg_Msg {n : Nat} {d : D} (h : TellArg TT (n + 4) 38 d) : ∃ m : Msg, d = msgD m ∧ m.tame := by
  simp [TellArg] at h
  obtain ⟨cs, rfl, h⟩ := h
  obtain ⟨v, rfl, hv⟩ := tell_Msg h
  exact ⟨v, rfl, hv⟩
end Go.AM
