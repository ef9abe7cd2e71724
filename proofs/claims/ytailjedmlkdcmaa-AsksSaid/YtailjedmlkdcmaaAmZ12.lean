/- What the proof of this claim stands on, part 12. -/
import Derived.Test.YtailjedmlkdcmaaAmZ11
/- AM: chapter 21's statements: Asks. -/
namespace Go.AM
set_option linter.unusedSimpArgs false
set_option linter.unusedVariables false
set_option maxRecDepth 8000
set_option maxHeartbeats 0
theorem spoil_Told_at (pre xs : List Told) (hl : xs.length ≤ cap16) (hp : pre.length ≤ cap16) : Den PP 60 [.ref 0 pre.length xs.length] [⟨(pre ++ xs).map Told.row, 3, .mut⟩] (.tup []) [⟨(pre ++ xs.map spoilTold).map Told.row, 3, .mut⟩] := by
  unfold cap16 at hl hp
  refine den_of [] [] is_gimmallaw0_SpoilTolds ?_
  simp -implicitDefEqProofs [c_gimmallaw0_SpoilTolds]
  refine list_rule xs (fun i rest => fun ⟨fr, bs⟩ => ∃ done, bs = [⟨(done ++ rest).map Told.row, 3, .mut⟩] ∧ done.length = pre.length + i ∧ done ++ rest.map spoilTold = pre ++ xs.map spoilTold ∧ fr 0 = .ref 0 pre.length xs.length ∧ fr 2 = .int .i64 i)
    (fun ⟨fr, bs⟩ => bs = [⟨(pre ++ xs.map spoilTold).map Told.row, 3, .mut⟩]) (fun ⟨fr, bs⟩ => False) c_gimmallaw0_SpoilTolds_L0.eq_1 ?_ ?_ ?_ ?_ ?_
  · exact ⟨pre, by simp, rfl, rfl, rfl, rfl⟩
  · rintro i ⟨fr, bs⟩ hi ⟨done, rfl, hd, he, h0, h2⟩
    simp -implicitDefEqProofs [h0, h2, hi]
    simp at he
    simp [he]
  · rintro i a rest ⟨fr, bs⟩ hlt hget hg hd hd2 ⟨done, rfl, hdl, he, h0, h2⟩
    have hlt' : (i : Int) < xs.length := by omega
    have hw := wrap_next (n := i) (by omega)
    have h3 : ∀ (A B : List (List D)) r, A.length = pre.length + i → (A ++ r :: B)[pre.length + i]? = some r := by intro A B r h; simp [← h]
    have h4 : ∀ (A B : List (List D)) r r', A.length = pre.length + i → (A ++ r' :: B).set (pre.length + i) r = A ++ r :: B := by intro A B r r' h; simp [← h]
    simp -implicitDefEqProofs [h0, h2, hlt', h3, h4, hdl, Told.row, hw, reach, downTo]
    exact ⟨done ++ [spoilTold a], by first | (simp [Told.row, spoilTold]; done) | (simp [Told.row, spoilTold]; rfl), by simp [hdl]; omega, by simpa using he⟩
  · rintro ⟨fr, bs⟩ rfl
    try simp -implicitDefEqProofs
  · rintro ⟨fr, bs⟩ h
    exact h.elim
theorem law_SpoilNode_at (x : Node) (pre xs : List Told) (h1 : x.view.peers.length ≤ cap16) (h2 : x.view.passive.length ≤ cap16) (h3 : x.items.length ≤ cap16) (h4 : xs.length ≤ cap16) (h5 : pre.length ≤ cap16) : Den PP 25 [noteD x pre xs] (noteB x pre xs) (.tup []) (noteB (spoilN x) pre (xs.map spoilTold)) := by
  have s1 := law_SpoilView x.view h1 h2
  have s2 := spoil_Item x.items h3
  have s3 := spoil_Told_at pre xs h4 h5
  unfold noteD noteB spoilN
  refine den_of [] [3, 6, 9] is_gimmallaw0_SpoilNode ?_
  simp -implicitDefEqProofs [c_gimmallaw0_SpoilNode]
  refine lendThen_frame [0, 1] rfl (by decide) (by simp) s1 (by simp) (by simp [lentBs]) ?_
  simp -implicitDefEqProofs [framed]
  refine lendThen_frame [2] rfl (by decide) (by simp) s2 (by simp) (by simp [lentBs]) ?_
  simp -implicitDefEqProofs [framed]
  refine lendThen_frame [3] rfl (by decide) (by simp) s3 (by simp) (by simp [lentBs]) ?_
  simp -implicitDefEqProofs [framed]
theorem law_CopyMsg (m : Msg) (hl : m.ids.length ≤ cap) : Den PP 15 [msgD m] [] (.agg [.int .i64 m.kind, .int .i64 m.from_, .int .i64 m.to, .ref 0 0 m.ids.length, .int .i64 m.key, .int .i64 m.item.key, .int .i64 m.item.count, .int .i64 m.item.writer, .int .i64 m.item.value, .bool m.item.gone, .bool m.has]) [⟨m.ids.map irow, 1, .mut⟩] := by
  have h8 : m.ids.length * 8 ≤ 140737488355328 := by unfold cap at hl; omega
  refine den_of [] [] is_gimmallaw0_CopyMsg ?_
  simp -implicitDefEqProofs [c_gimmallaw0_CopyMsg, msgD, Msg.row, intsD, h8]
  repeat' (first | (with_reducible refine gOps_dec (fun _ => ?_) (fun _ => ?_) <;> simp -implicitDefEqProofs [*, h8]) | (with_reducible refine gOps_ndec (fun _ => ?_) (fun _ => ?_) <;> simp -implicitDefEqProofs [*, h8]) | (with_reducible refine gOps_and (fun hq => ?_) (fun hq => ?_) <;> (try simp at hq) <;> simp -implicitDefEqProofs [*, h8]) | (with_reducible refine gOps_or (fun hq => ?_) (fun hq => ?_) <;> (try simp at hq) <;> simp -implicitDefEqProofs [*, h8]) | (with_reducible refine gOps_not (fun hq => ?_) (fun hq => ?_) <;> (try simp at hq) <;> simp -implicitDefEqProofs [*, h8]) | (with_reducible refine gOps_split (fun hq => ?_) (fun hq => ?_) <;> (try simp at hq) <;> simp -implicitDefEqProofs [*, h8]) | (with_reducible refine condC_dec (fun _ => ?_) (fun _ => ?_) <;> simp -implicitDefEqProofs [*, h8]) | (with_reducible refine condC_ndec (fun _ => ?_) (fun _ => ?_) <;> simp -implicitDefEqProofs [*, h8]) | (with_reducible refine condC_and (fun hq => ?_) (fun hq => ?_) <;> (try simp at hq) <;> simp -implicitDefEqProofs [*, h8]) | (with_reducible refine condC_or (fun hq => ?_) (fun hq => ?_) <;> (try simp at hq) <;> simp -implicitDefEqProofs [*, h8]) | (with_reducible refine condC_not (fun hq => ?_) (fun hq => ?_) <;> (try simp at hq) <;> simp -implicitDefEqProofs [*, h8]) | (with_reducible refine condC_split (fun hq => ?_) (fun hq => ?_) <;> (try simp at hq) <;> simp -implicitDefEqProofs [*, h8]) | (refine appK2_if (by omega) ?_; simp -implicitDefEqProofs [*, h8]) | (refine pureV_if (by omega) ?_; simp -implicitDefEqProofs [*, h8]))
theorem law21_it (k c : Int) : Den PP 30 [.int .i64 k, .int .i64 c] [] (.agg (itT k c).row) [] := by
  refine den_of [] [] is_gimmallaw21_it ?_
  simp -implicitDefEqProofs [c_gimmallaw21_it, itT, Item.row]
theorem law21_node100 : Den PP 29 [] [] (.agg [.bool true, .int .i64 100, .ref 0 0 3, .ref 1 0 1, .ref 2 0 3, .nil]) [⟨nodeT.view.peers.map Peer.row, 2, .mut⟩, ⟨nodeT.view.passive.map irow, 1, .mut⟩, ⟨nodeT.items.map Item.row, 5, .mut⟩] := by
  have i1 := law21_it 95 1
  have i2 := law21_it 99 3
  have i3 := law21_it 250 2
  simp [itT, Item.row] at i1 i2 i3
  refine den_of [] [] is_gimmallaw21_node100 ?_
  simp -implicitDefEqProofs [c_gimmallaw21_node100, nodeT, Peer.row, irow, Item.row]
  repeat' (first | (refine callThen_of (by first | exact i1 | exact i2 | exact i3) ?_; simp -implicitDefEqProofs [*, nodeT, Peer.row, irow, Item.row]) | (with_reducible refine gOps_dec (fun _ => ?_) (fun _ => ?_) <;> simp -implicitDefEqProofs [*, nodeT, Peer.row, irow, Item.row]) | (with_reducible refine gOps_ndec (fun _ => ?_) (fun _ => ?_) <;> simp -implicitDefEqProofs [*, nodeT, Peer.row, irow, Item.row]) | (with_reducible refine gOps_and (fun hq => ?_) (fun hq => ?_) <;> (try simp at hq) <;> simp -implicitDefEqProofs [*, nodeT, Peer.row, irow, Item.row]) | (with_reducible refine gOps_or (fun hq => ?_) (fun hq => ?_) <;> (try simp at hq) <;> simp -implicitDefEqProofs [*, nodeT, Peer.row, irow, Item.row]) | (with_reducible refine gOps_not (fun hq => ?_) (fun hq => ?_) <;> (try simp at hq) <;> simp -implicitDefEqProofs [*, nodeT, Peer.row, irow, Item.row]) | (with_reducible refine gOps_split (fun hq => ?_) (fun hq => ?_) <;> (try simp at hq) <;> simp -implicitDefEqProofs [*, nodeT, Peer.row, irow, Item.row]) | (with_reducible refine condC_dec (fun _ => ?_) (fun _ => ?_) <;> simp -implicitDefEqProofs [*, nodeT, Peer.row, irow, Item.row]) | (with_reducible refine condC_ndec (fun _ => ?_) (fun _ => ?_) <;> simp -implicitDefEqProofs [*, nodeT, Peer.row, irow, Item.row]) | (with_reducible refine condC_and (fun hq => ?_) (fun hq => ?_) <;> (try simp at hq) <;> simp -implicitDefEqProofs [*, nodeT, Peer.row, irow, Item.row]) | (with_reducible refine condC_or (fun hq => ?_) (fun hq => ?_) <;> (try simp at hq) <;> simp -implicitDefEqProofs [*, nodeT, Peer.row, irow, Item.row]) | (with_reducible refine condC_not (fun hq => ?_) (fun hq => ?_) <;> (try simp at hq) <;> simp -implicitDefEqProofs [*, nodeT, Peer.row, irow, Item.row]) | (with_reducible refine condC_split (fun hq => ?_) (fun hq => ?_) <;> (try simp at hq) <;> simp -implicitDefEqProofs [*, nodeT, Peer.row, irow, Item.row]) | (refine appK2_if (by omega) ?_; simp -implicitDefEqProofs [*, nodeT, Peer.row, irow, Item.row]) | (refine pureV_if (by omega) ?_; simp -implicitDefEqProofs [*, nodeT, Peer.row, irow, Item.row]))
theorem law21_awake : Den PP 28 [] [] (.bool true) [] := by
  have g1 := ask_Get_own nodeT 99 small_nodeT (by decide +kernel) (by decide +kernel) (by decide +kernel)
  have g2 := ask_Get_far nodeT 250 small_nodeT (by decide +kernel) (by decide +kernel) (by decide +kernel)
  have g3 := ask_Answer_ok nodeT ⟨2, 9, 100, [], 95, zeroItem, false⟩ small_nodeT (by unfold cap; simp) (by decide +kernel)
  have g4 := ask_Told_ok nodeT ⟨3, 9, 100, [], 5, zeroItem, false⟩ small_nodeT (by unfold cap; simp) (by decide +kernel)
  have g5 := ask_Get_no nodeT 256 small_nodeT (by decide +kernel)
  have g6 := ask_Answer_no nodeT ⟨2, 9, 101, [], 95, zeroItem, false⟩ small_nodeT (by unfold cap; simp) (by decide +kernel)
  have e1 : logOf nodeT (gotT nodeT 99) = [⟨99, true, 3⟩] := by decide +kernel
  have e2 : logPre nodeT (gotT nodeT 99) = [] := by decide +kernel
  have e3 : (ownerV nodeT.view 250).1 = 90 := by decide +kernel
  have e4 : tellOf nodeT ⟨2, 9, 100, [], 95, zeroItem, false⟩ = ⟨3, 100, 9, [], 95, itT 95 1, true⟩ := by decide +kernel
  have e5 : logOf nodeT (mT ⟨3, 9, 100, [], 5, zeroItem, false⟩) = [⟨5, false, 0⟩] := by decide +kernel
  have e6 : logPre nodeT (mT ⟨3, 9, 100, [], 5, zeroItem, false⟩) = [] := by decide +kernel
  rw [e1, e2] at g1
  rw [e3] at g2
  rw [e4] at g3
  rw [e5, e6] at g4
  have s1 := law_SameTolds [⟨99, true, 3⟩] [⟨99, true, 3⟩] (by unfold cap; simp)
  have s2 := law_SameTolds [⟨5, false, 0⟩] [⟨5, false, 0⟩] (by unfold cap; simp)
  have i1 := law21_it 95 1
  clear e1 e2 e3 e4 e5 e6
  simp [noteD, noteB, copyD, nodeB, nodeT, itT, zeroItem, nodeD, Node.cells, peersD, intsD, itemsD, toldsD, Peer.row, irow, Item.row, Told.row, msgD, Msg.row, Msg.row0, askOf] at g1 g2 g3 g4 g5 g6 i1 s1 s2
  have g0 := law21_node100
  simp [nodeT, Peer.row, irow, Item.row] at g0
  refine den_of [] [] is_gimmallaw21_awake ?_
  simp -implicitDefEqProofs [c_gimmallaw21_awake]
  repeat' (first | (refine callThen_of (by first | exact g0 | exact i1 | exact g1 | exact den_nrm (g1) | exact den_nrm (by simpa using g1) | exact g2 | exact den_nrm (g2) | exact den_nrm (by simpa using g2) | exact g3 | exact den_nrm (g3) | exact den_nrm (by simpa using g3) | exact g4 | exact den_nrm (g4) | exact den_nrm (by simpa using g4) | exact g5 | exact den_nrm (g5) | exact den_nrm (by simpa using g5) | exact g6 | exact den_nrm (g6) | exact den_nrm (by simpa using g6) | exact s1 | exact den_nrm (s1) | exact den_nrm (by simpa using s1) | exact s2 | exact den_nrm (s2) | exact den_nrm (by simpa using s2) | exact law_Num _) ?_; simp -implicitDefEqProofs [*, downTo, EQS]) | (with_reducible refine gOps_dec (fun _ => ?_) (fun _ => ?_) <;> simp -implicitDefEqProofs [*, downTo, EQS]) | (with_reducible refine gOps_ndec (fun _ => ?_) (fun _ => ?_) <;> simp -implicitDefEqProofs [*, downTo, EQS]) | (with_reducible refine gOps_and (fun hq => ?_) (fun hq => ?_) <;> (try simp at hq) <;> simp -implicitDefEqProofs [*, downTo, EQS]) | (with_reducible refine gOps_or (fun hq => ?_) (fun hq => ?_) <;> (try simp at hq) <;> simp -implicitDefEqProofs [*, downTo, EQS]) | (with_reducible refine gOps_not (fun hq => ?_) (fun hq => ?_) <;> (try simp at hq) <;> simp -implicitDefEqProofs [*, downTo, EQS]) | (with_reducible refine gOps_split (fun hq => ?_) (fun hq => ?_) <;> (try simp at hq) <;> simp -implicitDefEqProofs [*, downTo, EQS]) | (with_reducible refine condC_dec (fun _ => ?_) (fun _ => ?_) <;> simp -implicitDefEqProofs [*, downTo, EQS]) | (with_reducible refine condC_ndec (fun _ => ?_) (fun _ => ?_) <;> simp -implicitDefEqProofs [*, downTo, EQS]) | (with_reducible refine condC_and (fun hq => ?_) (fun hq => ?_) <;> (try simp at hq) <;> simp -implicitDefEqProofs [*, downTo, EQS]) | (with_reducible refine condC_or (fun hq => ?_) (fun hq => ?_) <;> (try simp at hq) <;> simp -implicitDefEqProofs [*, downTo, EQS]) | (with_reducible refine condC_not (fun hq => ?_) (fun hq => ?_) <;> (try simp at hq) <;> simp -implicitDefEqProofs [*, downTo, EQS]) | (with_reducible refine condC_split (fun hq => ?_) (fun hq => ?_) <;> (try simp at hq) <;> simp -implicitDefEqProofs [*, downTo, EQS]) | (refine appK2_if (by omega) ?_; simp -implicitDefEqProofs [*, downTo, EQS]) | (refine pureV_if (by omega) ?_; simp -implicitDefEqProofs [*, downTo, EQS]))
end Go.AM
/- AM: chapter 21's statements: Asks. -/
namespace Go.AM
set_option linter.unusedSimpArgs false
set_option linter.unusedVariables false
set_option maxRecDepth 8000
set_option maxHeartbeats 0
theorem small_log {x : Node} (hs : x.small) {xs : List Told} (h : xs.length ≤ 65) : ({ x with log := xs } : Node).small := by
  refine ⟨hs.1, hs.2.1, ?_⟩
  have := hs.2.2
  unfold cap at *
  simp only at *
  omega
theorem logOf_len {x : Node} {t : Told} (h : x.log.length ≤ 64) : (logOf x t).length ≤ 65 ∧ (logPre x t).length ≤ 1 := by
  obtain ⟨h1, h2, h3⟩ := log_len x t
  omega
theorem law21_Asks_AAA (x : Node) (key : Int) (m : Msg) (hs : x.small) (hm : m.ids.length ≤ cap) (h : (nodeUp x && place key) = false) (ha : toB x m 2 = false) (ht : toB x m 3 = false) : Den PP 3 [nodeD x, .int .i64 key, msgD m] [] (.bool true) [] := by
  have g0 := law_CopyNode x hs
  have c0 := law_CopyMsg m hm
  have n0 := law_SameNode x x hs
  have q0 := law_SameMsg m m hm
  have g1 := ask_Get_no x key hs h
  have g2 := ref_Get_no x key hs h
  have n1 := law_SameNode zeroNode zeroNode small_zero
  have m1 := law_SameMsgs [] [] (by unfold cap16; simp) (by simp)
  have s1 := law_SpoilNode_nil false 0
  have z1 := law_SpoilMsgs [] (by unfold cap16; simp)
  clear h
  have a1 := ask_Answer_no x m hs hm ha
  have a2 := ref_Answer_no x m hs hm ha
  have m2 := law_SameMsgs [] [] (by unfold cap16; simp) (by simp)
  have z2 := law_SpoilMsgs [] (by unfold cap16; simp)
  have t1 := ask_Told_no x m hs hm ht
  have t2 := ref_Told_no x m hs hm ht
  have n2 := law_SameNode zeroNode zeroNode small_zero
  have s2 := law_SpoilNode_nil false 0
  clear ha ht
  simp only [nodeD, Node.cells, viewD, View.cells, peersD, intsD, itemsD, toldsD, Item.row, noteD, noteB, copyD, nodeB, msgsD, msgD, Msg.row, zeroNode, List.map_nil, List.map_cons, List.length_nil, List.length_cons, List.nil_append, List.cons_append] at g0 c0 n0 q0 g1 g2 n1 s1 z1 a1 a2 z2 t1 t2 n2 s2 ⊢
  simp only [msgsD, List.map_nil, List.map_cons, List.length_nil, List.length_cons] at m1 m2
  refine den_of [30, 44, 56] [105, 107, 109, 111] is_gimmallaw21_Asks ?_
  simp -implicitDefEqProofs [c_gimmallaw21_Asks, Msg.row, ]
  repeat' (first | (refine callThen_of (by first | exact g0 | exact c0 | exact g1 | exact g2 | exact a1 | exact a2 | exact t1 | exact t2 | exact n1 | exact den_nrm (n1) | exact den_nrm (by simpa using n1) | exact n2 | exact den_nrm (n2) | exact den_nrm (by simpa using n2) | exact m1 | exact den_nrm (m1) | exact den_nrm (by simpa using m1) | exact m2 | exact den_nrm (m2) | exact den_nrm (by simpa using m2) | exact law_Num _) ?_; simp -implicitDefEqProofs [*, downTo, ]) | (with_reducible refine gOps_dec (fun _ => ?_) (fun _ => ?_) <;> simp -implicitDefEqProofs [*, downTo, ]) | (with_reducible refine gOps_ndec (fun _ => ?_) (fun _ => ?_) <;> simp -implicitDefEqProofs [*, downTo, ]) | (with_reducible refine gOps_and (fun hq => ?_) (fun hq => ?_) <;> (try simp at hq) <;> simp -implicitDefEqProofs [*, downTo, ]) | (with_reducible refine gOps_or (fun hq => ?_) (fun hq => ?_) <;> (try simp at hq) <;> simp -implicitDefEqProofs [*, downTo, ]) | (with_reducible refine gOps_not (fun hq => ?_) (fun hq => ?_) <;> (try simp at hq) <;> simp -implicitDefEqProofs [*, downTo, ]) | (with_reducible refine gOps_split (fun hq => ?_) (fun hq => ?_) <;> (try simp at hq) <;> simp -implicitDefEqProofs [*, downTo, ]) | (with_reducible refine condC_dec (fun _ => ?_) (fun _ => ?_) <;> simp -implicitDefEqProofs [*, downTo, ]) | (with_reducible refine condC_ndec (fun _ => ?_) (fun _ => ?_) <;> simp -implicitDefEqProofs [*, downTo, ]) | (with_reducible refine condC_and (fun hq => ?_) (fun hq => ?_) <;> (try simp at hq) <;> simp -implicitDefEqProofs [*, downTo, ]) | (with_reducible refine condC_or (fun hq => ?_) (fun hq => ?_) <;> (try simp at hq) <;> simp -implicitDefEqProofs [*, downTo, ]) | (with_reducible refine condC_not (fun hq => ?_) (fun hq => ?_) <;> (try simp at hq) <;> simp -implicitDefEqProofs [*, downTo, ]) | (with_reducible refine condC_split (fun hq => ?_) (fun hq => ?_) <;> (try simp at hq) <;> simp -implicitDefEqProofs [*, downTo, ]) | (refine appK2_if (by omega) ?_; simp -implicitDefEqProofs [*, downTo, ]) | (refine pureV_if (by omega) ?_; simp -implicitDefEqProofs [*, downTo, ]))
  refine lendThen_frame [] rfl (by decide) (by simp) s1 (by simp) (by simp [lentBs]) ?_
  simp -implicitDefEqProofs [framed]
  refine lendThen_frame [] rfl (by decide) (by simp) s2 (by simp) (by simp [lentBs]) ?_
  simp -implicitDefEqProofs [framed]
  refine lendThen_frame [4] rfl (by decide) (by simp) z1 (by simp) (by simp [lentBs]) ?_
  simp -implicitDefEqProofs [framed]
  refine lendThen_frame [7] rfl (by decide) (by simp) z2 (by simp) (by simp [lentBs]) ?_
  simp -implicitDefEqProofs [framed]
  repeat' (first | (refine callThen_of (by first | exact n0 | exact q0 | exact law21_awake) ?_; simp -implicitDefEqProofs [*]) | (with_reducible refine gOps_dec (fun _ => ?_) (fun _ => ?_) <;> simp -implicitDefEqProofs [*]) | (with_reducible refine gOps_ndec (fun _ => ?_) (fun _ => ?_) <;> simp -implicitDefEqProofs [*]) | (with_reducible refine gOps_and (fun hq => ?_) (fun hq => ?_) <;> (try simp at hq) <;> simp -implicitDefEqProofs [*]) | (with_reducible refine gOps_or (fun hq => ?_) (fun hq => ?_) <;> (try simp at hq) <;> simp -implicitDefEqProofs [*]) | (with_reducible refine gOps_not (fun hq => ?_) (fun hq => ?_) <;> (try simp at hq) <;> simp -implicitDefEqProofs [*]) | (with_reducible refine gOps_split (fun hq => ?_) (fun hq => ?_) <;> (try simp at hq) <;> simp -implicitDefEqProofs [*]) | (with_reducible refine condC_dec (fun _ => ?_) (fun _ => ?_) <;> simp -implicitDefEqProofs [*]) | (with_reducible refine condC_ndec (fun _ => ?_) (fun _ => ?_) <;> simp -implicitDefEqProofs [*]) | (with_reducible refine condC_and (fun hq => ?_) (fun hq => ?_) <;> (try simp at hq) <;> simp -implicitDefEqProofs [*]) | (with_reducible refine condC_or (fun hq => ?_) (fun hq => ?_) <;> (try simp at hq) <;> simp -implicitDefEqProofs [*]) | (with_reducible refine condC_not (fun hq => ?_) (fun hq => ?_) <;> (try simp at hq) <;> simp -implicitDefEqProofs [*]) | (with_reducible refine condC_split (fun hq => ?_) (fun hq => ?_) <;> (try simp at hq) <;> simp -implicitDefEqProofs [*]) | (refine appK2_if (by omega) ?_; simp -implicitDefEqProofs [*]) | (refine pureV_if (by omega) ?_; simp -implicitDefEqProofs [*]))
theorem law21_Asks_AAB (x : Node) (key : Int) (m : Msg) (hs : x.small) (hm : m.ids.length ≤ cap) (h : (nodeUp x && place key) = false) (ha : toB x m 2 = false) (ht : toB x m 3 = true) : Den PP 3 [nodeD x, .int .i64 key, msgD m] [] (.bool true) [] := by
  have g0 := law_CopyNode x hs
  have c0 := law_CopyMsg m hm
  have n0 := law_SameNode x x hs
  have q0 := law_SameMsg m m hm
  have g1 := ask_Get_no x key hs h
  have g2 := ref_Get_no x key hs h
  have n1 := law_SameNode zeroNode zeroNode small_zero
  have m1 := law_SameMsgs [] [] (by unfold cap16; simp) (by simp)
  have s1 := law_SpoilNode_nil false 0
  have z1 := law_SpoilMsgs [] (by unfold cap16; simp)
  clear h
  have a1 := ask_Answer_no x m hs hm ha
  have a2 := ref_Answer_no x m hs hm ha
  have m2 := law_SameMsgs [] [] (by unfold cap16; simp) (by simp)
  have z2 := law_SpoilMsgs [] (by unfold cap16; simp)
  obtain ⟨l1, l2, l3, l4⟩ := nodeUp_small (x := x) (by unfold toB at ht; rw [Bool.and_eq_true] at ht; exact ht.1)
  have t1 := ask_Told_ok x m hs hm ht
  have t2 := ref_Told_ok x m hs hm ht
  obtain ⟨d1, d2⟩ := logOf_len (t := mT m) l4
  generalize logOf x (mT m) = ys at *
  generalize logPre x (mT m) = pre2 at *
  have n2 := law_SameNode { x with log := ys } { x with log := ys } (small_log hs d1)
  have s2 := law_SpoilNode_at x pre2 ys (by unfold cap16; omega) (by unfold cap16; omega) (by unfold cap16; omega) (by unfold cap16; omega) (by unfold cap16; omega)
  clear ha ht
  clear l1 l2 l3 l4
  simp only [nodeD, Node.cells, viewD, View.cells, peersD, intsD, itemsD, toldsD, Item.row, noteD, noteB, copyD, nodeB, msgsD, msgD, Msg.row, zeroNode, List.map_nil, List.map_cons, List.length_nil, List.length_cons, List.nil_append, List.cons_append] at g0 c0 n0 q0 g1 g2 n1 s1 z1 a1 a2 z2 t1 t2 n2 s2 ⊢
  simp only [msgsD, List.map_nil, List.map_cons, List.length_nil, List.length_cons] at m1 m2
  refine den_of [30, 44, 56] [105, 107, 109, 111] is_gimmallaw21_Asks ?_
  simp -implicitDefEqProofs [c_gimmallaw21_Asks, Msg.row, ]
  repeat' (first | (refine callThen_of (by first | exact g0 | exact c0 | exact g1 | exact g2 | exact a1 | exact a2 | exact t1 | exact t2 | exact n1 | exact den_nrm (n1) | exact den_nrm (by simpa using n1) | exact n2 | exact den_nrm (n2) | exact den_nrm (by simpa using n2) | exact m1 | exact den_nrm (m1) | exact den_nrm (by simpa using m1) | exact m2 | exact den_nrm (m2) | exact den_nrm (by simpa using m2) | exact law_Num _) ?_; simp -implicitDefEqProofs [*, downTo, ]) | (with_reducible refine gOps_dec (fun _ => ?_) (fun _ => ?_) <;> simp -implicitDefEqProofs [*, downTo, ]) | (with_reducible refine gOps_ndec (fun _ => ?_) (fun _ => ?_) <;> simp -implicitDefEqProofs [*, downTo, ]) | (with_reducible refine gOps_and (fun hq => ?_) (fun hq => ?_) <;> (try simp at hq) <;> simp -implicitDefEqProofs [*, downTo, ]) | (with_reducible refine gOps_or (fun hq => ?_) (fun hq => ?_) <;> (try simp at hq) <;> simp -implicitDefEqProofs [*, downTo, ]) | (with_reducible refine gOps_not (fun hq => ?_) (fun hq => ?_) <;> (try simp at hq) <;> simp -implicitDefEqProofs [*, downTo, ]) | (with_reducible refine gOps_split (fun hq => ?_) (fun hq => ?_) <;> (try simp at hq) <;> simp -implicitDefEqProofs [*, downTo, ]) | (with_reducible refine condC_dec (fun _ => ?_) (fun _ => ?_) <;> simp -implicitDefEqProofs [*, downTo, ]) | (with_reducible refine condC_ndec (fun _ => ?_) (fun _ => ?_) <;> simp -implicitDefEqProofs [*, downTo, ]) | (with_reducible refine condC_and (fun hq => ?_) (fun hq => ?_) <;> (try simp at hq) <;> simp -implicitDefEqProofs [*, downTo, ]) | (with_reducible refine condC_or (fun hq => ?_) (fun hq => ?_) <;> (try simp at hq) <;> simp -implicitDefEqProofs [*, downTo, ]) | (with_reducible refine condC_not (fun hq => ?_) (fun hq => ?_) <;> (try simp at hq) <;> simp -implicitDefEqProofs [*, downTo, ]) | (with_reducible refine condC_split (fun hq => ?_) (fun hq => ?_) <;> (try simp at hq) <;> simp -implicitDefEqProofs [*, downTo, ]) | (refine appK2_if (by omega) ?_; simp -implicitDefEqProofs [*, downTo, ]) | (refine pureV_if (by omega) ?_; simp -implicitDefEqProofs [*, downTo, ]))
  refine lendThen_frame [] rfl (by decide) (by simp) s1 (by simp) (by simp [lentBs]) ?_
  simp -implicitDefEqProofs [framed]
  refine lendThen_frame [8, 9, 10, 11] rfl (by decide) (by simp) s2 (by simp) (by simp [lentBs]) ?_
  simp -implicitDefEqProofs [framed]
  refine lendThen_frame [4] rfl (by decide) (by simp) z1 (by simp) (by simp [lentBs]) ?_
  simp -implicitDefEqProofs [framed]
  refine lendThen_frame [7] rfl (by decide) (by simp) z2 (by simp) (by simp [lentBs]) ?_
  simp -implicitDefEqProofs [framed]
  repeat' (first | (refine callThen_of (by first | exact n0 | exact q0 | exact law21_awake) ?_; simp -implicitDefEqProofs [*]) | (with_reducible refine gOps_dec (fun _ => ?_) (fun _ => ?_) <;> simp -implicitDefEqProofs [*]) | (with_reducible refine gOps_ndec (fun _ => ?_) (fun _ => ?_) <;> simp -implicitDefEqProofs [*]) | (with_reducible refine gOps_and (fun hq => ?_) (fun hq => ?_) <;> (try simp at hq) <;> simp -implicitDefEqProofs [*]) | (with_reducible refine gOps_or (fun hq => ?_) (fun hq => ?_) <;> (try simp at hq) <;> simp -implicitDefEqProofs [*]) | (with_reducible refine gOps_not (fun hq => ?_) (fun hq => ?_) <;> (try simp at hq) <;> simp -implicitDefEqProofs [*]) | (with_reducible refine gOps_split (fun hq => ?_) (fun hq => ?_) <;> (try simp at hq) <;> simp -implicitDefEqProofs [*]) | (with_reducible refine condC_dec (fun _ => ?_) (fun _ => ?_) <;> simp -implicitDefEqProofs [*]) | (with_reducible refine condC_ndec (fun _ => ?_) (fun _ => ?_) <;> simp -implicitDefEqProofs [*]) | (with_reducible refine condC_and (fun hq => ?_) (fun hq => ?_) <;> (try simp at hq) <;> simp -implicitDefEqProofs [*]) | (with_reducible refine condC_or (fun hq => ?_) (fun hq => ?_) <;> (try simp at hq) <;> simp -implicitDefEqProofs [*]) | (with_reducible refine condC_not (fun hq => ?_) (fun hq => ?_) <;> (try simp at hq) <;> simp -implicitDefEqProofs [*]) | (with_reducible refine condC_split (fun hq => ?_) (fun hq => ?_) <;> (try simp at hq) <;> simp -implicitDefEqProofs [*]) | (refine appK2_if (by omega) ?_; simp -implicitDefEqProofs [*]) | (refine pureV_if (by omega) ?_; simp -implicitDefEqProofs [*]))
theorem law21_Asks_ABA (x : Node) (key : Int) (m : Msg) (hs : x.small) (hm : m.ids.length ≤ cap) (h : (nodeUp x && place key) = false) (ha : toB x m 2 = true) (ht : toB x m 3 = false) : Den PP 3 [nodeD x, .int .i64 key, msgD m] [] (.bool true) [] := by
  have g0 := law_CopyNode x hs
  have c0 := law_CopyMsg m hm
  have n0 := law_SameNode x x hs
  have q0 := law_SameMsg m m hm
  have g1 := ask_Get_no x key hs h
  have g2 := ref_Get_no x key hs h
  have n1 := law_SameNode zeroNode zeroNode small_zero
  have m1 := law_SameMsgs [] [] (by unfold cap16; simp) (by simp)
  have s1 := law_SpoilNode_nil false 0
  have z1 := law_SpoilMsgs [] (by unfold cap16; simp)
  clear h
  have a1 := ask_Answer_ok x m hs hm ha
  have a2 := ref_Answer_ok x m hs hm ha
  generalize hw : tellOf x m = w at *
  have hwi : w.ids = [] := by rw [← hw]; rfl
  clear hw
  have hwb : w.bare = w := by cases w; simp only at hwi; subst hwi; rfl
  have m2 := law_SameMsgs [w] [w] (by unfold cap16; simp) (by intro y hy; rw [List.mem_singleton.1 hy, hwi]; simp)
  have z2 := law_SpoilMsgs [w] (by unfold cap16; simp)
  clear hwi
  have t1 := ask_Told_no x m hs hm ht
  have t2 := ref_Told_no x m hs hm ht
  have n2 := law_SameNode zeroNode zeroNode small_zero
  have s2 := law_SpoilNode_nil false 0
  clear ha ht
  simp only [nodeD, Node.cells, viewD, View.cells, peersD, intsD, itemsD, toldsD, Item.row, noteD, noteB, copyD, nodeB, msgsD, msgD, Msg.row, zeroNode, List.map_nil, List.map_cons, List.length_nil, List.length_cons, List.nil_append, List.cons_append] at g0 c0 n0 q0 g1 g2 n1 s1 z1 a1 a2 z2 t1 t2 n2 s2 ⊢
  simp only [msgsD, List.map_nil, List.map_cons, List.length_nil, List.length_cons] at m1 m2
  refine den_of [30, 44, 56] [105, 107, 109, 111] is_gimmallaw21_Asks ?_
  simp -implicitDefEqProofs [c_gimmallaw21_Asks, Msg.row, hwb]
  repeat' (first | (refine callThen_of (by first | exact g0 | exact c0 | exact g1 | exact g2 | exact a1 | exact a2 | exact t1 | exact t2 | exact n1 | exact den_nrm (n1) | exact den_nrm (by simpa using n1) | exact n2 | exact den_nrm (n2) | exact den_nrm (by simpa using n2) | exact m1 | exact den_nrm (m1) | exact den_nrm (by simpa using m1) | exact m2 | exact den_nrm (m2) | exact den_nrm (by simpa using m2) | exact law_Num _) ?_; simp -implicitDefEqProofs [*, downTo, hwb]) | (with_reducible refine gOps_dec (fun _ => ?_) (fun _ => ?_) <;> simp -implicitDefEqProofs [*, downTo, hwb]) | (with_reducible refine gOps_ndec (fun _ => ?_) (fun _ => ?_) <;> simp -implicitDefEqProofs [*, downTo, hwb]) | (with_reducible refine gOps_and (fun hq => ?_) (fun hq => ?_) <;> (try simp at hq) <;> simp -implicitDefEqProofs [*, downTo, hwb]) | (with_reducible refine gOps_or (fun hq => ?_) (fun hq => ?_) <;> (try simp at hq) <;> simp -implicitDefEqProofs [*, downTo, hwb]) | (with_reducible refine gOps_not (fun hq => ?_) (fun hq => ?_) <;> (try simp at hq) <;> simp -implicitDefEqProofs [*, downTo, hwb]) | (with_reducible refine gOps_split (fun hq => ?_) (fun hq => ?_) <;> (try simp at hq) <;> simp -implicitDefEqProofs [*, downTo, hwb]) | (with_reducible refine condC_dec (fun _ => ?_) (fun _ => ?_) <;> simp -implicitDefEqProofs [*, downTo, hwb]) | (with_reducible refine condC_ndec (fun _ => ?_) (fun _ => ?_) <;> simp -implicitDefEqProofs [*, downTo, hwb]) | (with_reducible refine condC_and (fun hq => ?_) (fun hq => ?_) <;> (try simp at hq) <;> simp -implicitDefEqProofs [*, downTo, hwb]) | (with_reducible refine condC_or (fun hq => ?_) (fun hq => ?_) <;> (try simp at hq) <;> simp -implicitDefEqProofs [*, downTo, hwb]) | (with_reducible refine condC_not (fun hq => ?_) (fun hq => ?_) <;> (try simp at hq) <;> simp -implicitDefEqProofs [*, downTo, hwb]) | (with_reducible refine condC_split (fun hq => ?_) (fun hq => ?_) <;> (try simp at hq) <;> simp -implicitDefEqProofs [*, downTo, hwb]) | (refine appK2_if (by omega) ?_; simp -implicitDefEqProofs [*, downTo, hwb]) | (refine pureV_if (by omega) ?_; simp -implicitDefEqProofs [*, downTo, hwb]))
  refine callThen_nil rfl m2 (by have := nrmLL_mrow0 [w]; simpa [hwb] using this) ?_
  simp -implicitDefEqProofs
  repeat' (first | (refine callThen_of (by first | exact n2 | exact den_nrm (n2) | exact den_nrm (by simpa using n2) | exact law_Num _) ?_; simp -implicitDefEqProofs [*, downTo]) | (with_reducible refine gOps_dec (fun _ => ?_) (fun _ => ?_) <;> simp -implicitDefEqProofs [*, downTo]) | (with_reducible refine gOps_ndec (fun _ => ?_) (fun _ => ?_) <;> simp -implicitDefEqProofs [*, downTo]) | (with_reducible refine gOps_and (fun hq => ?_) (fun hq => ?_) <;> (try simp at hq) <;> simp -implicitDefEqProofs [*, downTo]) | (with_reducible refine gOps_or (fun hq => ?_) (fun hq => ?_) <;> (try simp at hq) <;> simp -implicitDefEqProofs [*, downTo]) | (with_reducible refine gOps_not (fun hq => ?_) (fun hq => ?_) <;> (try simp at hq) <;> simp -implicitDefEqProofs [*, downTo]) | (with_reducible refine gOps_split (fun hq => ?_) (fun hq => ?_) <;> (try simp at hq) <;> simp -implicitDefEqProofs [*, downTo]) | (with_reducible refine condC_dec (fun _ => ?_) (fun _ => ?_) <;> simp -implicitDefEqProofs [*, downTo]) | (with_reducible refine condC_ndec (fun _ => ?_) (fun _ => ?_) <;> simp -implicitDefEqProofs [*, downTo]) | (with_reducible refine condC_and (fun hq => ?_) (fun hq => ?_) <;> (try simp at hq) <;> simp -implicitDefEqProofs [*, downTo]) | (with_reducible refine condC_or (fun hq => ?_) (fun hq => ?_) <;> (try simp at hq) <;> simp -implicitDefEqProofs [*, downTo]) | (with_reducible refine condC_not (fun hq => ?_) (fun hq => ?_) <;> (try simp at hq) <;> simp -implicitDefEqProofs [*, downTo]) | (with_reducible refine condC_split (fun hq => ?_) (fun hq => ?_) <;> (try simp at hq) <;> simp -implicitDefEqProofs [*, downTo]) | (refine appK2_if (by omega) ?_; simp -implicitDefEqProofs [*, downTo]) | (refine pureV_if (by omega) ?_; simp -implicitDefEqProofs [*, downTo]))
  refine lendThen_frame [] rfl (by decide) (by simp) s1 (by simp) (by simp [lentBs]) ?_
  simp -implicitDefEqProofs [framed]
  refine lendThen_frame [] rfl (by decide) (by simp) s2 (by simp) (by simp [lentBs]) ?_
  simp -implicitDefEqProofs [framed]
  refine lendThen_frame [4] rfl (by decide) (by simp) z1 (by simp) (by simp [lentBs]) ?_
  simp -implicitDefEqProofs [framed]
  refine lendThen_frame [7] rfl (by decide) (by simp) z2 (by simp) (by simp [lentBs]) ?_
  simp -implicitDefEqProofs [framed]
  repeat' (first | (refine callThen_of (by first | exact n0 | exact q0 | exact law21_awake) ?_; simp -implicitDefEqProofs [*]) | (with_reducible refine gOps_dec (fun _ => ?_) (fun _ => ?_) <;> simp -implicitDefEqProofs [*]) | (with_reducible refine gOps_ndec (fun _ => ?_) (fun _ => ?_) <;> simp -implicitDefEqProofs [*]) | (with_reducible refine gOps_and (fun hq => ?_) (fun hq => ?_) <;> (try simp at hq) <;> simp -implicitDefEqProofs [*]) | (with_reducible refine gOps_or (fun hq => ?_) (fun hq => ?_) <;> (try simp at hq) <;> simp -implicitDefEqProofs [*]) | (with_reducible refine gOps_not (fun hq => ?_) (fun hq => ?_) <;> (try simp at hq) <;> simp -implicitDefEqProofs [*]) | (with_reducible refine gOps_split (fun hq => ?_) (fun hq => ?_) <;> (try simp at hq) <;> simp -implicitDefEqProofs [*]) | (with_reducible refine condC_dec (fun _ => ?_) (fun _ => ?_) <;> simp -implicitDefEqProofs [*]) | (with_reducible refine condC_ndec (fun _ => ?_) (fun _ => ?_) <;> simp -implicitDefEqProofs [*]) | (with_reducible refine condC_and (fun hq => ?_) (fun hq => ?_) <;> (try simp at hq) <;> simp -implicitDefEqProofs [*]) | (with_reducible refine condC_or (fun hq => ?_) (fun hq => ?_) <;> (try simp at hq) <;> simp -implicitDefEqProofs [*]) | (with_reducible refine condC_not (fun hq => ?_) (fun hq => ?_) <;> (try simp at hq) <;> simp -implicitDefEqProofs [*]) | (with_reducible refine condC_split (fun hq => ?_) (fun hq => ?_) <;> (try simp at hq) <;> simp -implicitDefEqProofs [*]) | (refine appK2_if (by omega) ?_; simp -implicitDefEqProofs [*]) | (refine pureV_if (by omega) ?_; simp -implicitDefEqProofs [*]))
theorem law21_Asks_ABB (x : Node) (key : Int) (m : Msg) (hs : x.small) (hm : m.ids.length ≤ cap) (h : (nodeUp x && place key) = false) (ha : toB x m 2 = true) (ht : toB x m 3 = true) : Den PP 3 [nodeD x, .int .i64 key, msgD m] [] (.bool true) [] := by
  have g0 := law_CopyNode x hs
  have c0 := law_CopyMsg m hm
  have n0 := law_SameNode x x hs
  have q0 := law_SameMsg m m hm
  have g1 := ask_Get_no x key hs h
  have g2 := ref_Get_no x key hs h
  have n1 := law_SameNode zeroNode zeroNode small_zero
  have m1 := law_SameMsgs [] [] (by unfold cap16; simp) (by simp)
  have s1 := law_SpoilNode_nil false 0
  have z1 := law_SpoilMsgs [] (by unfold cap16; simp)
  clear h
  have a1 := ask_Answer_ok x m hs hm ha
  have a2 := ref_Answer_ok x m hs hm ha
  generalize hw : tellOf x m = w at *
  have hwi : w.ids = [] := by rw [← hw]; rfl
  clear hw
  have hwb : w.bare = w := by cases w; simp only at hwi; subst hwi; rfl
  have m2 := law_SameMsgs [w] [w] (by unfold cap16; simp) (by intro y hy; rw [List.mem_singleton.1 hy, hwi]; simp)
  have z2 := law_SpoilMsgs [w] (by unfold cap16; simp)
  clear hwi
  obtain ⟨l1, l2, l3, l4⟩ := nodeUp_small (x := x) (by unfold toB at ht; rw [Bool.and_eq_true] at ht; exact ht.1)
  have t1 := ask_Told_ok x m hs hm ht
  have t2 := ref_Told_ok x m hs hm ht
  obtain ⟨d1, d2⟩ := logOf_len (t := mT m) l4
  generalize logOf x (mT m) = ys at *
  generalize logPre x (mT m) = pre2 at *
  have n2 := law_SameNode { x with log := ys } { x with log := ys } (small_log hs d1)
  have s2 := law_SpoilNode_at x pre2 ys (by unfold cap16; omega) (by unfold cap16; omega) (by unfold cap16; omega) (by unfold cap16; omega) (by unfold cap16; omega)
  clear ha ht
  clear l1 l2 l3 l4
  simp only [nodeD, Node.cells, viewD, View.cells, peersD, intsD, itemsD, toldsD, Item.row, noteD, noteB, copyD, nodeB, msgsD, msgD, Msg.row, zeroNode, List.map_nil, List.map_cons, List.length_nil, List.length_cons, List.nil_append, List.cons_append] at g0 c0 n0 q0 g1 g2 n1 s1 z1 a1 a2 z2 t1 t2 n2 s2 ⊢
  simp only [msgsD, List.map_nil, List.map_cons, List.length_nil, List.length_cons] at m1 m2
  refine den_of [30, 44, 56] [105, 107, 109, 111] is_gimmallaw21_Asks ?_
  simp -implicitDefEqProofs [c_gimmallaw21_Asks, Msg.row, hwb]
  repeat' (first | (refine callThen_of (by first | exact g0 | exact c0 | exact g1 | exact g2 | exact a1 | exact a2 | exact t1 | exact t2 | exact n1 | exact den_nrm (n1) | exact den_nrm (by simpa using n1) | exact n2 | exact den_nrm (n2) | exact den_nrm (by simpa using n2) | exact m1 | exact den_nrm (m1) | exact den_nrm (by simpa using m1) | exact m2 | exact den_nrm (m2) | exact den_nrm (by simpa using m2) | exact law_Num _) ?_; simp -implicitDefEqProofs [*, downTo, hwb]) | (with_reducible refine gOps_dec (fun _ => ?_) (fun _ => ?_) <;> simp -implicitDefEqProofs [*, downTo, hwb]) | (with_reducible refine gOps_ndec (fun _ => ?_) (fun _ => ?_) <;> simp -implicitDefEqProofs [*, downTo, hwb]) | (with_reducible refine gOps_and (fun hq => ?_) (fun hq => ?_) <;> (try simp at hq) <;> simp -implicitDefEqProofs [*, downTo, hwb]) | (with_reducible refine gOps_or (fun hq => ?_) (fun hq => ?_) <;> (try simp at hq) <;> simp -implicitDefEqProofs [*, downTo, hwb]) | (with_reducible refine gOps_not (fun hq => ?_) (fun hq => ?_) <;> (try simp at hq) <;> simp -implicitDefEqProofs [*, downTo, hwb]) | (with_reducible refine gOps_split (fun hq => ?_) (fun hq => ?_) <;> (try simp at hq) <;> simp -implicitDefEqProofs [*, downTo, hwb]) | (with_reducible refine condC_dec (fun _ => ?_) (fun _ => ?_) <;> simp -implicitDefEqProofs [*, downTo, hwb]) | (with_reducible refine condC_ndec (fun _ => ?_) (fun _ => ?_) <;> simp -implicitDefEqProofs [*, downTo, hwb]) | (with_reducible refine condC_and (fun hq => ?_) (fun hq => ?_) <;> (try simp at hq) <;> simp -implicitDefEqProofs [*, downTo, hwb]) | (with_reducible refine condC_or (fun hq => ?_) (fun hq => ?_) <;> (try simp at hq) <;> simp -implicitDefEqProofs [*, downTo, hwb]) | (with_reducible refine condC_not (fun hq => ?_) (fun hq => ?_) <;> (try simp at hq) <;> simp -implicitDefEqProofs [*, downTo, hwb]) | (with_reducible refine condC_split (fun hq => ?_) (fun hq => ?_) <;> (try simp at hq) <;> simp -implicitDefEqProofs [*, downTo, hwb]) | (refine appK2_if (by omega) ?_; simp -implicitDefEqProofs [*, downTo, hwb]) | (refine pureV_if (by omega) ?_; simp -implicitDefEqProofs [*, downTo, hwb]))
  refine callThen_nil rfl m2 (by have := nrmLL_mrow0 [w]; simpa [hwb] using this) ?_
  simp -implicitDefEqProofs
  repeat' (first | (refine callThen_of (by first | exact n2 | exact den_nrm (n2) | exact den_nrm (by simpa using n2) | exact law_Num _) ?_; simp -implicitDefEqProofs [*, downTo]) | (with_reducible refine gOps_dec (fun _ => ?_) (fun _ => ?_) <;> simp -implicitDefEqProofs [*, downTo]) | (with_reducible refine gOps_ndec (fun _ => ?_) (fun _ => ?_) <;> simp -implicitDefEqProofs [*, downTo]) | (with_reducible refine gOps_and (fun hq => ?_) (fun hq => ?_) <;> (try simp at hq) <;> simp -implicitDefEqProofs [*, downTo]) | (with_reducible refine gOps_or (fun hq => ?_) (fun hq => ?_) <;> (try simp at hq) <;> simp -implicitDefEqProofs [*, downTo]) | (with_reducible refine gOps_not (fun hq => ?_) (fun hq => ?_) <;> (try simp at hq) <;> simp -implicitDefEqProofs [*, downTo]) | (with_reducible refine gOps_split (fun hq => ?_) (fun hq => ?_) <;> (try simp at hq) <;> simp -implicitDefEqProofs [*, downTo]) | (with_reducible refine condC_dec (fun _ => ?_) (fun _ => ?_) <;> simp -implicitDefEqProofs [*, downTo]) | (with_reducible refine condC_ndec (fun _ => ?_) (fun _ => ?_) <;> simp -implicitDefEqProofs [*, downTo]) | (with_reducible refine condC_and (fun hq => ?_) (fun hq => ?_) <;> (try simp at hq) <;> simp -implicitDefEqProofs [*, downTo]) | (with_reducible refine condC_or (fun hq => ?_) (fun hq => ?_) <;> (try simp at hq) <;> simp -implicitDefEqProofs [*, downTo]) | (with_reducible refine condC_not (fun hq => ?_) (fun hq => ?_) <;> (try simp at hq) <;> simp -implicitDefEqProofs [*, downTo]) | (with_reducible refine condC_split (fun hq => ?_) (fun hq => ?_) <;> (try simp at hq) <;> simp -implicitDefEqProofs [*, downTo]) | (refine appK2_if (by omega) ?_; simp -implicitDefEqProofs [*, downTo]) | (refine pureV_if (by omega) ?_; simp -implicitDefEqProofs [*, downTo]))
  refine lendThen_frame [] rfl (by decide) (by simp) s1 (by simp) (by simp [lentBs]) ?_
  simp -implicitDefEqProofs [framed]
  refine lendThen_frame [8, 9, 10, 11] rfl (by decide) (by simp) s2 (by simp) (by simp [lentBs]) ?_
  simp -implicitDefEqProofs [framed]
  refine lendThen_frame [4] rfl (by decide) (by simp) z1 (by simp) (by simp [lentBs]) ?_
  simp -implicitDefEqProofs [framed]
  refine lendThen_frame [7] rfl (by decide) (by simp) z2 (by simp) (by simp [lentBs]) ?_
  simp -implicitDefEqProofs [framed]
  repeat' (first | (refine callThen_of (by first | exact n0 | exact q0 | exact law21_awake) ?_; simp -implicitDefEqProofs [*]) | (with_reducible refine gOps_dec (fun _ => ?_) (fun _ => ?_) <;> simp -implicitDefEqProofs [*]) | (with_reducible refine gOps_ndec (fun _ => ?_) (fun _ => ?_) <;> simp -implicitDefEqProofs [*]) | (with_reducible refine gOps_and (fun hq => ?_) (fun hq => ?_) <;> (try simp at hq) <;> simp -implicitDefEqProofs [*]) | (with_reducible refine gOps_or (fun hq => ?_) (fun hq => ?_) <;> (try simp at hq) <;> simp -implicitDefEqProofs [*]) | (with_reducible refine gOps_not (fun hq => ?_) (fun hq => ?_) <;> (try simp at hq) <;> simp -implicitDefEqProofs [*]) | (with_reducible refine gOps_split (fun hq => ?_) (fun hq => ?_) <;> (try simp at hq) <;> simp -implicitDefEqProofs [*]) | (with_reducible refine condC_dec (fun _ => ?_) (fun _ => ?_) <;> simp -implicitDefEqProofs [*]) | (with_reducible refine condC_ndec (fun _ => ?_) (fun _ => ?_) <;> simp -implicitDefEqProofs [*]) | (with_reducible refine condC_and (fun hq => ?_) (fun hq => ?_) <;> (try simp at hq) <;> simp -implicitDefEqProofs [*]) | (with_reducible refine condC_or (fun hq => ?_) (fun hq => ?_) <;> (try simp at hq) <;> simp -implicitDefEqProofs [*]) | (with_reducible refine condC_not (fun hq => ?_) (fun hq => ?_) <;> (try simp at hq) <;> simp -implicitDefEqProofs [*]) | (with_reducible refine condC_split (fun hq => ?_) (fun hq => ?_) <;> (try simp at hq) <;> simp -implicitDefEqProofs [*]) | (refine appK2_if (by omega) ?_; simp -implicitDefEqProofs [*]) | (refine pureV_if (by omega) ?_; simp -implicitDefEqProofs [*]))
theorem law21_Asks_BAA (x : Node) (key : Int) (m : Msg) (hs : x.small) (hm : m.ids.length ≤ cap) (hu : nodeUp x = true) (hk : place key = true) (ho : (ownerV x.view key).1 = x.view.id) (ha : toB x m 2 = false) (ht : toB x m 3 = false) : Den PP 3 [nodeD x, .int .i64 key, msgD m] [] (.bool true) [] := by
  have g0 := law_CopyNode x hs
  have c0 := law_CopyMsg m hm
  have n0 := law_SameNode x x hs
  have q0 := law_SameMsg m m hm
  obtain ⟨l1, l2, l3, l4⟩ := nodeUp_small hu
  have g1 := ask_Get_own x key hs hu hk ho
  have g2 := ref_Get_own x key hs hu hk ho
  obtain ⟨b1, b2⟩ := logOf_len (t := gotT x key) l4
  generalize logOf x (gotT x key) = xs at *
  generalize logPre x (gotT x key) = pre at *
  have n1 := law_SameNode { x with log := xs } { x with log := xs } (small_log hs b1)
  have m1 := law_SameMsgs [] [] (by unfold cap16; simp) (by simp)
  have s1 := law_SpoilNode_at x pre xs (by unfold cap16; omega) (by unfold cap16; omega) (by unfold cap16; omega) (by unfold cap16; omega) (by unfold cap16; omega)
  have z1 := law_SpoilMsgs [] (by unfold cap16; simp)
  clear ho hk
  have a1 := ask_Answer_no x m hs hm ha
  have a2 := ref_Answer_no x m hs hm ha
  have m2 := law_SameMsgs [] [] (by unfold cap16; simp) (by simp)
  have z2 := law_SpoilMsgs [] (by unfold cap16; simp)
  have t1 := ask_Told_no x m hs hm ht
  have t2 := ref_Told_no x m hs hm ht
  have n2 := law_SameNode zeroNode zeroNode small_zero
  have s2 := law_SpoilNode_nil false 0
  clear ha ht
  clear hu
  clear l1 l2 l3 l4
  simp only [nodeD, Node.cells, viewD, View.cells, peersD, intsD, itemsD, toldsD, Item.row, noteD, noteB, copyD, nodeB, msgsD, msgD, Msg.row, zeroNode, List.map_nil, List.map_cons, List.length_nil, List.length_cons, List.nil_append, List.cons_append] at g0 c0 n0 q0 g1 g2 n1 s1 z1 a1 a2 z2 t1 t2 n2 s2 ⊢
  simp only [msgsD, List.map_nil, List.map_cons, List.length_nil, List.length_cons] at m1 m2
  refine den_of [30, 44, 56] [105, 107, 109, 111] is_gimmallaw21_Asks ?_
  simp -implicitDefEqProofs [c_gimmallaw21_Asks, Msg.row, ]
  repeat' (first | (refine callThen_of (by first | exact g0 | exact c0 | exact g1 | exact g2 | exact a1 | exact a2 | exact t1 | exact t2 | exact n1 | exact den_nrm (n1) | exact den_nrm (by simpa using n1) | exact n2 | exact den_nrm (n2) | exact den_nrm (by simpa using n2) | exact m1 | exact den_nrm (m1) | exact den_nrm (by simpa using m1) | exact m2 | exact den_nrm (m2) | exact den_nrm (by simpa using m2) | exact law_Num _) ?_; simp -implicitDefEqProofs [*, downTo, ]) | (with_reducible refine gOps_dec (fun _ => ?_) (fun _ => ?_) <;> simp -implicitDefEqProofs [*, downTo, ]) | (with_reducible refine gOps_ndec (fun _ => ?_) (fun _ => ?_) <;> simp -implicitDefEqProofs [*, downTo, ]) | (with_reducible refine gOps_and (fun hq => ?_) (fun hq => ?_) <;> (try simp at hq) <;> simp -implicitDefEqProofs [*, downTo, ]) | (with_reducible refine gOps_or (fun hq => ?_) (fun hq => ?_) <;> (try simp at hq) <;> simp -implicitDefEqProofs [*, downTo, ]) | (with_reducible refine gOps_not (fun hq => ?_) (fun hq => ?_) <;> (try simp at hq) <;> simp -implicitDefEqProofs [*, downTo, ]) | (with_reducible refine gOps_split (fun hq => ?_) (fun hq => ?_) <;> (try simp at hq) <;> simp -implicitDefEqProofs [*, downTo, ]) | (with_reducible refine condC_dec (fun _ => ?_) (fun _ => ?_) <;> simp -implicitDefEqProofs [*, downTo, ]) | (with_reducible refine condC_ndec (fun _ => ?_) (fun _ => ?_) <;> simp -implicitDefEqProofs [*, downTo, ]) | (with_reducible refine condC_and (fun hq => ?_) (fun hq => ?_) <;> (try simp at hq) <;> simp -implicitDefEqProofs [*, downTo, ]) | (with_reducible refine condC_or (fun hq => ?_) (fun hq => ?_) <;> (try simp at hq) <;> simp -implicitDefEqProofs [*, downTo, ]) | (with_reducible refine condC_not (fun hq => ?_) (fun hq => ?_) <;> (try simp at hq) <;> simp -implicitDefEqProofs [*, downTo, ]) | (with_reducible refine condC_split (fun hq => ?_) (fun hq => ?_) <;> (try simp at hq) <;> simp -implicitDefEqProofs [*, downTo, ]) | (refine appK2_if (by omega) ?_; simp -implicitDefEqProofs [*, downTo, ]) | (refine pureV_if (by omega) ?_; simp -implicitDefEqProofs [*, downTo, ]))
  refine lendThen_frame [4, 5, 6, 7] rfl (by decide) (by simp) s1 (by simp) (by simp [lentBs]) ?_
  simp -implicitDefEqProofs [framed]
  refine lendThen_frame [] rfl (by decide) (by simp) s2 (by simp) (by simp [lentBs]) ?_
  simp -implicitDefEqProofs [framed]
  refine lendThen_frame [8] rfl (by decide) (by simp) z1 (by simp) (by simp [lentBs]) ?_
  simp -implicitDefEqProofs [framed]
  refine lendThen_frame [11] rfl (by decide) (by simp) z2 (by simp) (by simp [lentBs]) ?_
  simp -implicitDefEqProofs [framed]
  repeat' (first | (refine callThen_of (by first | exact n0 | exact q0 | exact law21_awake) ?_; simp -implicitDefEqProofs [*]) | (with_reducible refine gOps_dec (fun _ => ?_) (fun _ => ?_) <;> simp -implicitDefEqProofs [*]) | (with_reducible refine gOps_ndec (fun _ => ?_) (fun _ => ?_) <;> simp -implicitDefEqProofs [*]) | (with_reducible refine gOps_and (fun hq => ?_) (fun hq => ?_) <;> (try simp at hq) <;> simp -implicitDefEqProofs [*]) | (with_reducible refine gOps_or (fun hq => ?_) (fun hq => ?_) <;> (try simp at hq) <;> simp -implicitDefEqProofs [*]) | (with_reducible refine gOps_not (fun hq => ?_) (fun hq => ?_) <;> (try simp at hq) <;> simp -implicitDefEqProofs [*]) | (with_reducible refine gOps_split (fun hq => ?_) (fun hq => ?_) <;> (try simp at hq) <;> simp -implicitDefEqProofs [*]) | (with_reducible refine condC_dec (fun _ => ?_) (fun _ => ?_) <;> simp -implicitDefEqProofs [*]) | (with_reducible refine condC_ndec (fun _ => ?_) (fun _ => ?_) <;> simp -implicitDefEqProofs [*]) | (with_reducible refine condC_and (fun hq => ?_) (fun hq => ?_) <;> (try simp at hq) <;> simp -implicitDefEqProofs [*]) | (with_reducible refine condC_or (fun hq => ?_) (fun hq => ?_) <;> (try simp at hq) <;> simp -implicitDefEqProofs [*]) | (with_reducible refine condC_not (fun hq => ?_) (fun hq => ?_) <;> (try simp at hq) <;> simp -implicitDefEqProofs [*]) | (with_reducible refine condC_split (fun hq => ?_) (fun hq => ?_) <;> (try simp at hq) <;> simp -implicitDefEqProofs [*]) | (refine appK2_if (by omega) ?_; simp -implicitDefEqProofs [*]) | (refine pureV_if (by omega) ?_; simp -implicitDefEqProofs [*]))
theorem law21_Asks_BAB (x : Node) (key : Int) (m : Msg) (hs : x.small) (hm : m.ids.length ≤ cap) (hu : nodeUp x = true) (hk : place key = true) (ho : (ownerV x.view key).1 = x.view.id) (ha : toB x m 2 = false) (ht : toB x m 3 = true) : Den PP 3 [nodeD x, .int .i64 key, msgD m] [] (.bool true) [] := by
  have g0 := law_CopyNode x hs
  have c0 := law_CopyMsg m hm
  have n0 := law_SameNode x x hs
  have q0 := law_SameMsg m m hm
  obtain ⟨l1, l2, l3, l4⟩ := nodeUp_small hu
  have g1 := ask_Get_own x key hs hu hk ho
  have g2 := ref_Get_own x key hs hu hk ho
  obtain ⟨b1, b2⟩ := logOf_len (t := gotT x key) l4
  generalize logOf x (gotT x key) = xs at *
  generalize logPre x (gotT x key) = pre at *
  have n1 := law_SameNode { x with log := xs } { x with log := xs } (small_log hs b1)
  have m1 := law_SameMsgs [] [] (by unfold cap16; simp) (by simp)
  have s1 := law_SpoilNode_at x pre xs (by unfold cap16; omega) (by unfold cap16; omega) (by unfold cap16; omega) (by unfold cap16; omega) (by unfold cap16; omega)
  have z1 := law_SpoilMsgs [] (by unfold cap16; simp)
  clear ho hk
  have a1 := ask_Answer_no x m hs hm ha
  have a2 := ref_Answer_no x m hs hm ha
  have m2 := law_SameMsgs [] [] (by unfold cap16; simp) (by simp)
  have z2 := law_SpoilMsgs [] (by unfold cap16; simp)
  have t1 := ask_Told_ok x m hs hm ht
  have t2 := ref_Told_ok x m hs hm ht
  obtain ⟨d1, d2⟩ := logOf_len (t := mT m) l4
  generalize logOf x (mT m) = ys at *
  generalize logPre x (mT m) = pre2 at *
  have n2 := law_SameNode { x with log := ys } { x with log := ys } (small_log hs d1)
  have s2 := law_SpoilNode_at x pre2 ys (by unfold cap16; omega) (by unfold cap16; omega) (by unfold cap16; omega) (by unfold cap16; omega) (by unfold cap16; omega)
  clear ha ht
  clear hu
  clear l1 l2 l3 l4
  simp only [nodeD, Node.cells, viewD, View.cells, peersD, intsD, itemsD, toldsD, Item.row, noteD, noteB, copyD, nodeB, msgsD, msgD, Msg.row, zeroNode, List.map_nil, List.map_cons, List.length_nil, List.length_cons, List.nil_append, List.cons_append] at g0 c0 n0 q0 g1 g2 n1 s1 z1 a1 a2 z2 t1 t2 n2 s2 ⊢
  simp only [msgsD, List.map_nil, List.map_cons, List.length_nil, List.length_cons] at m1 m2
  refine den_of [30, 44, 56] [105, 107, 109, 111] is_gimmallaw21_Asks ?_
  simp -implicitDefEqProofs [c_gimmallaw21_Asks, Msg.row, ]
  repeat' (first | (refine callThen_of (by first | exact g0 | exact c0 | exact g1 | exact g2 | exact a1 | exact a2 | exact t1 | exact t2 | exact n1 | exact den_nrm (n1) | exact den_nrm (by simpa using n1) | exact n2 | exact den_nrm (n2) | exact den_nrm (by simpa using n2) | exact m1 | exact den_nrm (m1) | exact den_nrm (by simpa using m1) | exact m2 | exact den_nrm (m2) | exact den_nrm (by simpa using m2) | exact law_Num _) ?_; simp -implicitDefEqProofs [*, downTo, ]) | (with_reducible refine gOps_dec (fun _ => ?_) (fun _ => ?_) <;> simp -implicitDefEqProofs [*, downTo, ]) | (with_reducible refine gOps_ndec (fun _ => ?_) (fun _ => ?_) <;> simp -implicitDefEqProofs [*, downTo, ]) | (with_reducible refine gOps_and (fun hq => ?_) (fun hq => ?_) <;> (try simp at hq) <;> simp -implicitDefEqProofs [*, downTo, ]) | (with_reducible refine gOps_or (fun hq => ?_) (fun hq => ?_) <;> (try simp at hq) <;> simp -implicitDefEqProofs [*, downTo, ]) | (with_reducible refine gOps_not (fun hq => ?_) (fun hq => ?_) <;> (try simp at hq) <;> simp -implicitDefEqProofs [*, downTo, ]) | (with_reducible refine gOps_split (fun hq => ?_) (fun hq => ?_) <;> (try simp at hq) <;> simp -implicitDefEqProofs [*, downTo, ]) | (with_reducible refine condC_dec (fun _ => ?_) (fun _ => ?_) <;> simp -implicitDefEqProofs [*, downTo, ]) | (with_reducible refine condC_ndec (fun _ => ?_) (fun _ => ?_) <;> simp -implicitDefEqProofs [*, downTo, ]) | (with_reducible refine condC_and (fun hq => ?_) (fun hq => ?_) <;> (try simp at hq) <;> simp -implicitDefEqProofs [*, downTo, ]) | (with_reducible refine condC_or (fun hq => ?_) (fun hq => ?_) <;> (try simp at hq) <;> simp -implicitDefEqProofs [*, downTo, ]) | (with_reducible refine condC_not (fun hq => ?_) (fun hq => ?_) <;> (try simp at hq) <;> simp -implicitDefEqProofs [*, downTo, ]) | (with_reducible refine condC_split (fun hq => ?_) (fun hq => ?_) <;> (try simp at hq) <;> simp -implicitDefEqProofs [*, downTo, ]) | (refine appK2_if (by omega) ?_; simp -implicitDefEqProofs [*, downTo, ]) | (refine pureV_if (by omega) ?_; simp -implicitDefEqProofs [*, downTo, ]))
  refine lendThen_frame [4, 5, 6, 7] rfl (by decide) (by simp) s1 (by simp) (by simp [lentBs]) ?_
  simp -implicitDefEqProofs [framed]
  refine lendThen_frame [12, 13, 14, 15] rfl (by decide) (by simp) s2 (by simp) (by simp [lentBs]) ?_
  simp -implicitDefEqProofs [framed]
  refine lendThen_frame [8] rfl (by decide) (by simp) z1 (by simp) (by simp [lentBs]) ?_
  simp -implicitDefEqProofs [framed]
  refine lendThen_frame [11] rfl (by decide) (by simp) z2 (by simp) (by simp [lentBs]) ?_
  simp -implicitDefEqProofs [framed]
  repeat' (first | (refine callThen_of (by first | exact n0 | exact q0 | exact law21_awake) ?_; simp -implicitDefEqProofs [*]) | (with_reducible refine gOps_dec (fun _ => ?_) (fun _ => ?_) <;> simp -implicitDefEqProofs [*]) | (with_reducible refine gOps_ndec (fun _ => ?_) (fun _ => ?_) <;> simp -implicitDefEqProofs [*]) | (with_reducible refine gOps_and (fun hq => ?_) (fun hq => ?_) <;> (try simp at hq) <;> simp -implicitDefEqProofs [*]) | (with_reducible refine gOps_or (fun hq => ?_) (fun hq => ?_) <;> (try simp at hq) <;> simp -implicitDefEqProofs [*]) | (with_reducible refine gOps_not (fun hq => ?_) (fun hq => ?_) <;> (try simp at hq) <;> simp -implicitDefEqProofs [*]) | (with_reducible refine gOps_split (fun hq => ?_) (fun hq => ?_) <;> (try simp at hq) <;> simp -implicitDefEqProofs [*]) | (with_reducible refine condC_dec (fun _ => ?_) (fun _ => ?_) <;> simp -implicitDefEqProofs [*]) | (with_reducible refine condC_ndec (fun _ => ?_) (fun _ => ?_) <;> simp -implicitDefEqProofs [*]) | (with_reducible refine condC_and (fun hq => ?_) (fun hq => ?_) <;> (try simp at hq) <;> simp -implicitDefEqProofs [*]) | (with_reducible refine condC_or (fun hq => ?_) (fun hq => ?_) <;> (try simp at hq) <;> simp -implicitDefEqProofs [*]) | (with_reducible refine condC_not (fun hq => ?_) (fun hq => ?_) <;> (try simp at hq) <;> simp -implicitDefEqProofs [*]) | (with_reducible refine condC_split (fun hq => ?_) (fun hq => ?_) <;> (try simp at hq) <;> simp -implicitDefEqProofs [*]) | (refine appK2_if (by omega) ?_; simp -implicitDefEqProofs [*]) | (refine pureV_if (by omega) ?_; simp -implicitDefEqProofs [*]))
theorem law21_Asks_BBA (x : Node) (key : Int) (m : Msg) (hs : x.small) (hm : m.ids.length ≤ cap) (hu : nodeUp x = true) (hk : place key = true) (ho : (ownerV x.view key).1 = x.view.id) (ha : toB x m 2 = true) (ht : toB x m 3 = false) : Den PP 3 [nodeD x, .int .i64 key, msgD m] [] (.bool true) [] := by
  have g0 := law_CopyNode x hs
  have c0 := law_CopyMsg m hm
  have n0 := law_SameNode x x hs
  have q0 := law_SameMsg m m hm
  obtain ⟨l1, l2, l3, l4⟩ := nodeUp_small hu
  have g1 := ask_Get_own x key hs hu hk ho
  have g2 := ref_Get_own x key hs hu hk ho
  obtain ⟨b1, b2⟩ := logOf_len (t := gotT x key) l4
  generalize logOf x (gotT x key) = xs at *
  generalize logPre x (gotT x key) = pre at *
  have n1 := law_SameNode { x with log := xs } { x with log := xs } (small_log hs b1)
  have m1 := law_SameMsgs [] [] (by unfold cap16; simp) (by simp)
  have s1 := law_SpoilNode_at x pre xs (by unfold cap16; omega) (by unfold cap16; omega) (by unfold cap16; omega) (by unfold cap16; omega) (by unfold cap16; omega)
  have z1 := law_SpoilMsgs [] (by unfold cap16; simp)
  clear ho hk
  have a1 := ask_Answer_ok x m hs hm ha
  have a2 := ref_Answer_ok x m hs hm ha
  generalize hw : tellOf x m = w at *
  have hwi : w.ids = [] := by rw [← hw]; rfl
  clear hw
  have hwb : w.bare = w := by cases w; simp only at hwi; subst hwi; rfl
  have m2 := law_SameMsgs [w] [w] (by unfold cap16; simp) (by intro y hy; rw [List.mem_singleton.1 hy, hwi]; simp)
  have z2 := law_SpoilMsgs [w] (by unfold cap16; simp)
  clear hwi
  have t1 := ask_Told_no x m hs hm ht
  have t2 := ref_Told_no x m hs hm ht
  have n2 := law_SameNode zeroNode zeroNode small_zero
  have s2 := law_SpoilNode_nil false 0
  clear ha ht
  clear hu
  clear l1 l2 l3 l4
  simp only [nodeD, Node.cells, viewD, View.cells, peersD, intsD, itemsD, toldsD, Item.row, noteD, noteB, copyD, nodeB, msgsD, msgD, Msg.row, zeroNode, List.map_nil, List.map_cons, List.length_nil, List.length_cons, List.nil_append, List.cons_append] at g0 c0 n0 q0 g1 g2 n1 s1 z1 a1 a2 z2 t1 t2 n2 s2 ⊢
  simp only [msgsD, List.map_nil, List.map_cons, List.length_nil, List.length_cons] at m1 m2
  refine den_of [30, 44, 56] [105, 107, 109, 111] is_gimmallaw21_Asks ?_
  simp -implicitDefEqProofs [c_gimmallaw21_Asks, Msg.row, hwb]
  repeat' (first | (refine callThen_of (by first | exact g0 | exact c0 | exact g1 | exact g2 | exact a1 | exact a2 | exact t1 | exact t2 | exact n1 | exact den_nrm (n1) | exact den_nrm (by simpa using n1) | exact n2 | exact den_nrm (n2) | exact den_nrm (by simpa using n2) | exact m1 | exact den_nrm (m1) | exact den_nrm (by simpa using m1) | exact m2 | exact den_nrm (m2) | exact den_nrm (by simpa using m2) | exact law_Num _) ?_; simp -implicitDefEqProofs [*, downTo, hwb]) | (with_reducible refine gOps_dec (fun _ => ?_) (fun _ => ?_) <;> simp -implicitDefEqProofs [*, downTo, hwb]) | (with_reducible refine gOps_ndec (fun _ => ?_) (fun _ => ?_) <;> simp -implicitDefEqProofs [*, downTo, hwb]) | (with_reducible refine gOps_and (fun hq => ?_) (fun hq => ?_) <;> (try simp at hq) <;> simp -implicitDefEqProofs [*, downTo, hwb]) | (with_reducible refine gOps_or (fun hq => ?_) (fun hq => ?_) <;> (try simp at hq) <;> simp -implicitDefEqProofs [*, downTo, hwb]) | (with_reducible refine gOps_not (fun hq => ?_) (fun hq => ?_) <;> (try simp at hq) <;> simp -implicitDefEqProofs [*, downTo, hwb]) | (with_reducible refine gOps_split (fun hq => ?_) (fun hq => ?_) <;> (try simp at hq) <;> simp -implicitDefEqProofs [*, downTo, hwb]) | (with_reducible refine condC_dec (fun _ => ?_) (fun _ => ?_) <;> simp -implicitDefEqProofs [*, downTo, hwb]) | (with_reducible refine condC_ndec (fun _ => ?_) (fun _ => ?_) <;> simp -implicitDefEqProofs [*, downTo, hwb]) | (with_reducible refine condC_and (fun hq => ?_) (fun hq => ?_) <;> (try simp at hq) <;> simp -implicitDefEqProofs [*, downTo, hwb]) | (with_reducible refine condC_or (fun hq => ?_) (fun hq => ?_) <;> (try simp at hq) <;> simp -implicitDefEqProofs [*, downTo, hwb]) | (with_reducible refine condC_not (fun hq => ?_) (fun hq => ?_) <;> (try simp at hq) <;> simp -implicitDefEqProofs [*, downTo, hwb]) | (with_reducible refine condC_split (fun hq => ?_) (fun hq => ?_) <;> (try simp at hq) <;> simp -implicitDefEqProofs [*, downTo, hwb]) | (refine appK2_if (by omega) ?_; simp -implicitDefEqProofs [*, downTo, hwb]) | (refine pureV_if (by omega) ?_; simp -implicitDefEqProofs [*, downTo, hwb]))
  refine callThen_nil rfl m2 (by have := nrmLL_mrow0 [w]; simpa [hwb] using this) ?_
  simp -implicitDefEqProofs
  repeat' (first | (refine callThen_of (by first | exact n2 | exact den_nrm (n2) | exact den_nrm (by simpa using n2) | exact law_Num _) ?_; simp -implicitDefEqProofs [*, downTo]) | (with_reducible refine gOps_dec (fun _ => ?_) (fun _ => ?_) <;> simp -implicitDefEqProofs [*, downTo]) | (with_reducible refine gOps_ndec (fun _ => ?_) (fun _ => ?_) <;> simp -implicitDefEqProofs [*, downTo]) | (with_reducible refine gOps_and (fun hq => ?_) (fun hq => ?_) <;> (try simp at hq) <;> simp -implicitDefEqProofs [*, downTo]) | (with_reducible refine gOps_or (fun hq => ?_) (fun hq => ?_) <;> (try simp at hq) <;> simp -implicitDefEqProofs [*, downTo]) | (with_reducible refine gOps_not (fun hq => ?_) (fun hq => ?_) <;> (try simp at hq) <;> simp -implicitDefEqProofs [*, downTo]) | (with_reducible refine gOps_split (fun hq => ?_) (fun hq => ?_) <;> (try simp at hq) <;> simp -implicitDefEqProofs [*, downTo]) | (with_reducible refine condC_dec (fun _ => ?_) (fun _ => ?_) <;> simp -implicitDefEqProofs [*, downTo]) | (with_reducible refine condC_ndec (fun _ => ?_) (fun _ => ?_) <;> simp -implicitDefEqProofs [*, downTo]) | (with_reducible refine condC_and (fun hq => ?_) (fun hq => ?_) <;> (try simp at hq) <;> simp -implicitDefEqProofs [*, downTo]) | (with_reducible refine condC_or (fun hq => ?_) (fun hq => ?_) <;> (try simp at hq) <;> simp -implicitDefEqProofs [*, downTo]) | (with_reducible refine condC_not (fun hq => ?_) (fun hq => ?_) <;> (try simp at hq) <;> simp -implicitDefEqProofs [*, downTo]) | (with_reducible refine condC_split (fun hq => ?_) (fun hq => ?_) <;> (try simp at hq) <;> simp -implicitDefEqProofs [*, downTo]) | (refine appK2_if (by omega) ?_; simp -implicitDefEqProofs [*, downTo]) | (refine pureV_if (by omega) ?_; simp -implicitDefEqProofs [*, downTo]))
  refine lendThen_frame [4, 5, 6, 7] rfl (by decide) (by simp) s1 (by simp) (by simp [lentBs]) ?_
  simp -implicitDefEqProofs [framed]
  refine lendThen_frame [] rfl (by decide) (by simp) s2 (by simp) (by simp [lentBs]) ?_
  simp -implicitDefEqProofs [framed]
  refine lendThen_frame [8] rfl (by decide) (by simp) z1 (by simp) (by simp [lentBs]) ?_
  simp -implicitDefEqProofs [framed]
  refine lendThen_frame [11] rfl (by decide) (by simp) z2 (by simp) (by simp [lentBs]) ?_
  simp -implicitDefEqProofs [framed]
  repeat' (first | (refine callThen_of (by first | exact n0 | exact q0 | exact law21_awake) ?_; simp -implicitDefEqProofs [*]) | (with_reducible refine gOps_dec (fun _ => ?_) (fun _ => ?_) <;> simp -implicitDefEqProofs [*]) | (with_reducible refine gOps_ndec (fun _ => ?_) (fun _ => ?_) <;> simp -implicitDefEqProofs [*]) | (with_reducible refine gOps_and (fun hq => ?_) (fun hq => ?_) <;> (try simp at hq) <;> simp -implicitDefEqProofs [*]) | (with_reducible refine gOps_or (fun hq => ?_) (fun hq => ?_) <;> (try simp at hq) <;> simp -implicitDefEqProofs [*]) | (with_reducible refine gOps_not (fun hq => ?_) (fun hq => ?_) <;> (try simp at hq) <;> simp -implicitDefEqProofs [*]) | (with_reducible refine gOps_split (fun hq => ?_) (fun hq => ?_) <;> (try simp at hq) <;> simp -implicitDefEqProofs [*]) | (with_reducible refine condC_dec (fun _ => ?_) (fun _ => ?_) <;> simp -implicitDefEqProofs [*]) | (with_reducible refine condC_ndec (fun _ => ?_) (fun _ => ?_) <;> simp -implicitDefEqProofs [*]) | (with_reducible refine condC_and (fun hq => ?_) (fun hq => ?_) <;> (try simp at hq) <;> simp -implicitDefEqProofs [*]) | (with_reducible refine condC_or (fun hq => ?_) (fun hq => ?_) <;> (try simp at hq) <;> simp -implicitDefEqProofs [*]) | (with_reducible refine condC_not (fun hq => ?_) (fun hq => ?_) <;> (try simp at hq) <;> simp -implicitDefEqProofs [*]) | (with_reducible refine condC_split (fun hq => ?_) (fun hq => ?_) <;> (try simp at hq) <;> simp -implicitDefEqProofs [*]) | (refine appK2_if (by omega) ?_; simp -implicitDefEqProofs [*]) | (refine pureV_if (by omega) ?_; simp -implicitDefEqProofs [*]))
theorem law21_Asks_BBB (x : Node) (key : Int) (m : Msg) (hs : x.small) (hm : m.ids.length ≤ cap) (hu : nodeUp x = true) (hk : place key = true) (ho : (ownerV x.view key).1 = x.view.id) (ha : toB x m 2 = true) (ht : toB x m 3 = true) : Den PP 3 [nodeD x, .int .i64 key, msgD m] [] (.bool true) [] := by
  have g0 := law_CopyNode x hs
  have c0 := law_CopyMsg m hm
  have n0 := law_SameNode x x hs
  have q0 := law_SameMsg m m hm
  obtain ⟨l1, l2, l3, l4⟩ := nodeUp_small hu
  have g1 := ask_Get_own x key hs hu hk ho
  have g2 := ref_Get_own x key hs hu hk ho
  obtain ⟨b1, b2⟩ := logOf_len (t := gotT x key) l4
  generalize logOf x (gotT x key) = xs at *
  generalize logPre x (gotT x key) = pre at *
  have n1 := law_SameNode { x with log := xs } { x with log := xs } (small_log hs b1)
  have m1 := law_SameMsgs [] [] (by unfold cap16; simp) (by simp)
  have s1 := law_SpoilNode_at x pre xs (by unfold cap16; omega) (by unfold cap16; omega) (by unfold cap16; omega) (by unfold cap16; omega) (by unfold cap16; omega)
  have z1 := law_SpoilMsgs [] (by unfold cap16; simp)
  clear ho hk
  have a1 := ask_Answer_ok x m hs hm ha
  have a2 := ref_Answer_ok x m hs hm ha
  generalize hw : tellOf x m = w at *
  have hwi : w.ids = [] := by rw [← hw]; rfl
  clear hw
  have hwb : w.bare = w := by cases w; simp only at hwi; subst hwi; rfl
  have m2 := law_SameMsgs [w] [w] (by unfold cap16; simp) (by intro y hy; rw [List.mem_singleton.1 hy, hwi]; simp)
  have z2 := law_SpoilMsgs [w] (by unfold cap16; simp)
  clear hwi
  have t1 := ask_Told_ok x m hs hm ht
  have t2 := ref_Told_ok x m hs hm ht
  obtain ⟨d1, d2⟩ := logOf_len (t := mT m) l4
  generalize logOf x (mT m) = ys at *
  generalize logPre x (mT m) = pre2 at *
  have n2 := law_SameNode { x with log := ys } { x with log := ys } (small_log hs d1)
  have s2 := law_SpoilNode_at x pre2 ys (by unfold cap16; omega) (by unfold cap16; omega) (by unfold cap16; omega) (by unfold cap16; omega) (by unfold cap16; omega)
  clear ha ht
  clear hu
  clear l1 l2 l3 l4
  simp only [nodeD, Node.cells, viewD, View.cells, peersD, intsD, itemsD, toldsD, Item.row, noteD, noteB, copyD, nodeB, msgsD, msgD, Msg.row, zeroNode, List.map_nil, List.map_cons, List.length_nil, List.length_cons, List.nil_append, List.cons_append] at g0 c0 n0 q0 g1 g2 n1 s1 z1 a1 a2 z2 t1 t2 n2 s2 ⊢
  simp only [msgsD, List.map_nil, List.map_cons, List.length_nil, List.length_cons] at m1 m2
  refine den_of [30, 44, 56] [105, 107, 109, 111] is_gimmallaw21_Asks ?_
  simp -implicitDefEqProofs [c_gimmallaw21_Asks, Msg.row, hwb]
  repeat' (first | (refine callThen_of (by first | exact g0 | exact c0 | exact g1 | exact g2 | exact a1 | exact a2 | exact t1 | exact t2 | exact n1 | exact den_nrm (n1) | exact den_nrm (by simpa using n1) | exact n2 | exact den_nrm (n2) | exact den_nrm (by simpa using n2) | exact m1 | exact den_nrm (m1) | exact den_nrm (by simpa using m1) | exact m2 | exact den_nrm (m2) | exact den_nrm (by simpa using m2) | exact law_Num _) ?_; simp -implicitDefEqProofs [*, downTo, hwb]) | (with_reducible refine gOps_dec (fun _ => ?_) (fun _ => ?_) <;> simp -implicitDefEqProofs [*, downTo, hwb]) | (with_reducible refine gOps_ndec (fun _ => ?_) (fun _ => ?_) <;> simp -implicitDefEqProofs [*, downTo, hwb]) | (with_reducible refine gOps_and (fun hq => ?_) (fun hq => ?_) <;> (try simp at hq) <;> simp -implicitDefEqProofs [*, downTo, hwb]) | (with_reducible refine gOps_or (fun hq => ?_) (fun hq => ?_) <;> (try simp at hq) <;> simp -implicitDefEqProofs [*, downTo, hwb]) | (with_reducible refine gOps_not (fun hq => ?_) (fun hq => ?_) <;> (try simp at hq) <;> simp -implicitDefEqProofs [*, downTo, hwb]) | (with_reducible refine gOps_split (fun hq => ?_) (fun hq => ?_) <;> (try simp at hq) <;> simp -implicitDefEqProofs [*, downTo, hwb]) | (with_reducible refine condC_dec (fun _ => ?_) (fun _ => ?_) <;> simp -implicitDefEqProofs [*, downTo, hwb]) | (with_reducible refine condC_ndec (fun _ => ?_) (fun _ => ?_) <;> simp -implicitDefEqProofs [*, downTo, hwb]) | (with_reducible refine condC_and (fun hq => ?_) (fun hq => ?_) <;> (try simp at hq) <;> simp -implicitDefEqProofs [*, downTo, hwb]) | (with_reducible refine condC_or (fun hq => ?_) (fun hq => ?_) <;> (try simp at hq) <;> simp -implicitDefEqProofs [*, downTo, hwb]) | (with_reducible refine condC_not (fun hq => ?_) (fun hq => ?_) <;> (try simp at hq) <;> simp -implicitDefEqProofs [*, downTo, hwb]) | (with_reducible refine condC_split (fun hq => ?_) (fun hq => ?_) <;> (try simp at hq) <;> simp -implicitDefEqProofs [*, downTo, hwb]) | (refine appK2_if (by omega) ?_; simp -implicitDefEqProofs [*, downTo, hwb]) | (refine pureV_if (by omega) ?_; simp -implicitDefEqProofs [*, downTo, hwb]))
  refine callThen_nil rfl m2 (by have := nrmLL_mrow0 [w]; simpa [hwb] using this) ?_
  simp -implicitDefEqProofs
  repeat' (first | (refine callThen_of (by first | exact n2 | exact den_nrm (n2) | exact den_nrm (by simpa using n2) | exact law_Num _) ?_; simp -implicitDefEqProofs [*, downTo]) | (with_reducible refine gOps_dec (fun _ => ?_) (fun _ => ?_) <;> simp -implicitDefEqProofs [*, downTo]) | (with_reducible refine gOps_ndec (fun _ => ?_) (fun _ => ?_) <;> simp -implicitDefEqProofs [*, downTo]) | (with_reducible refine gOps_and (fun hq => ?_) (fun hq => ?_) <;> (try simp at hq) <;> simp -implicitDefEqProofs [*, downTo]) | (with_reducible refine gOps_or (fun hq => ?_) (fun hq => ?_) <;> (try simp at hq) <;> simp -implicitDefEqProofs [*, downTo]) | (with_reducible refine gOps_not (fun hq => ?_) (fun hq => ?_) <;> (try simp at hq) <;> simp -implicitDefEqProofs [*, downTo]) | (with_reducible refine gOps_split (fun hq => ?_) (fun hq => ?_) <;> (try simp at hq) <;> simp -implicitDefEqProofs [*, downTo]) | (with_reducible refine condC_dec (fun _ => ?_) (fun _ => ?_) <;> simp -implicitDefEqProofs [*, downTo]) | (with_reducible refine condC_ndec (fun _ => ?_) (fun _ => ?_) <;> simp -implicitDefEqProofs [*, downTo]) | (with_reducible refine condC_and (fun hq => ?_) (fun hq => ?_) <;> (try simp at hq) <;> simp -implicitDefEqProofs [*, downTo]) | (with_reducible refine condC_or (fun hq => ?_) (fun hq => ?_) <;> (try simp at hq) <;> simp -implicitDefEqProofs [*, downTo]) | (with_reducible refine condC_not (fun hq => ?_) (fun hq => ?_) <;> (try simp at hq) <;> simp -implicitDefEqProofs [*, downTo]) | (with_reducible refine condC_split (fun hq => ?_) (fun hq => ?_) <;> (try simp at hq) <;> simp -implicitDefEqProofs [*, downTo]) | (refine appK2_if (by omega) ?_; simp -implicitDefEqProofs [*, downTo]) | (refine pureV_if (by omega) ?_; simp -implicitDefEqProofs [*, downTo]))
  refine lendThen_frame [4, 5, 6, 7] rfl (by decide) (by simp) s1 (by simp) (by simp [lentBs]) ?_
  simp -implicitDefEqProofs [framed]
  refine lendThen_frame [12, 13, 14, 15] rfl (by decide) (by simp) s2 (by simp) (by simp [lentBs]) ?_
  simp -implicitDefEqProofs [framed]
  refine lendThen_frame [8] rfl (by decide) (by simp) z1 (by simp) (by simp [lentBs]) ?_
  simp -implicitDefEqProofs [framed]
  refine lendThen_frame [11] rfl (by decide) (by simp) z2 (by simp) (by simp [lentBs]) ?_
  simp -implicitDefEqProofs [framed]
  repeat' (first | (refine callThen_of (by first | exact n0 | exact q0 | exact law21_awake) ?_; simp -implicitDefEqProofs [*]) | (with_reducible refine gOps_dec (fun _ => ?_) (fun _ => ?_) <;> simp -implicitDefEqProofs [*]) | (with_reducible refine gOps_ndec (fun _ => ?_) (fun _ => ?_) <;> simp -implicitDefEqProofs [*]) | (with_reducible refine gOps_and (fun hq => ?_) (fun hq => ?_) <;> (try simp at hq) <;> simp -implicitDefEqProofs [*]) | (with_reducible refine gOps_or (fun hq => ?_) (fun hq => ?_) <;> (try simp at hq) <;> simp -implicitDefEqProofs [*]) | (with_reducible refine gOps_not (fun hq => ?_) (fun hq => ?_) <;> (try simp at hq) <;> simp -implicitDefEqProofs [*]) | (with_reducible refine gOps_split (fun hq => ?_) (fun hq => ?_) <;> (try simp at hq) <;> simp -implicitDefEqProofs [*]) | (with_reducible refine condC_dec (fun _ => ?_) (fun _ => ?_) <;> simp -implicitDefEqProofs [*]) | (with_reducible refine condC_ndec (fun _ => ?_) (fun _ => ?_) <;> simp -implicitDefEqProofs [*]) | (with_reducible refine condC_and (fun hq => ?_) (fun hq => ?_) <;> (try simp at hq) <;> simp -implicitDefEqProofs [*]) | (with_reducible refine condC_or (fun hq => ?_) (fun hq => ?_) <;> (try simp at hq) <;> simp -implicitDefEqProofs [*]) | (with_reducible refine condC_not (fun hq => ?_) (fun hq => ?_) <;> (try simp at hq) <;> simp -implicitDefEqProofs [*]) | (with_reducible refine condC_split (fun hq => ?_) (fun hq => ?_) <;> (try simp at hq) <;> simp -implicitDefEqProofs [*]) | (refine appK2_if (by omega) ?_; simp -implicitDefEqProofs [*]) | (refine pureV_if (by omega) ?_; simp -implicitDefEqProofs [*]))
theorem law21_Asks_CAA (x : Node) (key : Int) (m : Msg) (hs : x.small) (hm : m.ids.length ≤ cap) (hu : nodeUp x = true) (hk : place key = true) (ho : (ownerV x.view key).1 ≠ x.view.id) (ha : toB x m 2 = false) (ht : toB x m 3 = false) : Den PP 3 [nodeD x, .int .i64 key, msgD m] [] (.bool true) [] := by
  have g0 := law_CopyNode x hs
  have c0 := law_CopyMsg m hm
  have n0 := law_SameNode x x hs
  have q0 := law_SameMsg m m hm
  obtain ⟨l1, l2, l3, l4⟩ := nodeUp_small hu
  have g1 := ask_Get_far x key hs hu hk ho
  have g2 := ref_Get_far x key hs hu hk ho
  have n1 := law_SameNode x x hs
  generalize hq : askOf x (ownerV x.view key).1 key = q at *
  have hqi : q.ids = [] := by rw [← hq]; rfl
  clear hq
  have hqb : q.bare = q := by cases q; simp only at hqi; subst hqi; rfl
  have m1 := law_SameMsgs [q] [q] (by unfold cap16; simp) (by intro y hy; rw [List.mem_singleton.1 hy, hqi]; simp)
  have s1 := law_SpoilNode x (by unfold cap16; omega) (by unfold cap16; omega) (by unfold cap16; omega) (by unfold cap16; omega)
  have z1 := law_SpoilMsgs [q] (by unfold cap16; simp)
  clear ho hk hqi
  have a1 := ask_Answer_no x m hs hm ha
  have a2 := ref_Answer_no x m hs hm ha
  have m2 := law_SameMsgs [] [] (by unfold cap16; simp) (by simp)
  have z2 := law_SpoilMsgs [] (by unfold cap16; simp)
  have t1 := ask_Told_no x m hs hm ht
  have t2 := ref_Told_no x m hs hm ht
  have n2 := law_SameNode zeroNode zeroNode small_zero
  have s2 := law_SpoilNode_nil false 0
  clear ha ht
  clear hu
  clear l1 l2 l3 l4
  simp only [nodeD, Node.cells, viewD, View.cells, peersD, intsD, itemsD, toldsD, Item.row, noteD, noteB, copyD, nodeB, msgsD, msgD, Msg.row, zeroNode, List.map_nil, List.map_cons, List.length_nil, List.length_cons, List.nil_append, List.cons_append] at g0 c0 n0 q0 g1 g2 n1 s1 z1 a1 a2 z2 t1 t2 n2 s2 ⊢
  simp only [msgsD, List.map_nil, List.map_cons, List.length_nil, List.length_cons] at m1 m2
  refine den_of [30, 44, 56] [105, 107, 109, 111] is_gimmallaw21_Asks ?_
  simp -implicitDefEqProofs [c_gimmallaw21_Asks, Msg.row, hqb]
  repeat' (first | (refine callThen_of (by first | exact g0 | exact c0 | exact g1 | exact g2 | exact a1 | exact a2 | exact t1 | exact t2 | exact n1 | exact den_nrm (n1) | exact den_nrm (by simpa using n1) | exact n2 | exact den_nrm (n2) | exact den_nrm (by simpa using n2) | exact m1 | exact den_nrm (m1) | exact den_nrm (by simpa using m1) | exact m2 | exact den_nrm (m2) | exact den_nrm (by simpa using m2) | exact law_Num _) ?_; simp -implicitDefEqProofs [*, downTo, hqb]) | (with_reducible refine gOps_dec (fun _ => ?_) (fun _ => ?_) <;> simp -implicitDefEqProofs [*, downTo, hqb]) | (with_reducible refine gOps_ndec (fun _ => ?_) (fun _ => ?_) <;> simp -implicitDefEqProofs [*, downTo, hqb]) | (with_reducible refine gOps_and (fun hq => ?_) (fun hq => ?_) <;> (try simp at hq) <;> simp -implicitDefEqProofs [*, downTo, hqb]) | (with_reducible refine gOps_or (fun hq => ?_) (fun hq => ?_) <;> (try simp at hq) <;> simp -implicitDefEqProofs [*, downTo, hqb]) | (with_reducible refine gOps_not (fun hq => ?_) (fun hq => ?_) <;> (try simp at hq) <;> simp -implicitDefEqProofs [*, downTo, hqb]) | (with_reducible refine gOps_split (fun hq => ?_) (fun hq => ?_) <;> (try simp at hq) <;> simp -implicitDefEqProofs [*, downTo, hqb]) | (with_reducible refine condC_dec (fun _ => ?_) (fun _ => ?_) <;> simp -implicitDefEqProofs [*, downTo, hqb]) | (with_reducible refine condC_ndec (fun _ => ?_) (fun _ => ?_) <;> simp -implicitDefEqProofs [*, downTo, hqb]) | (with_reducible refine condC_and (fun hq => ?_) (fun hq => ?_) <;> (try simp at hq) <;> simp -implicitDefEqProofs [*, downTo, hqb]) | (with_reducible refine condC_or (fun hq => ?_) (fun hq => ?_) <;> (try simp at hq) <;> simp -implicitDefEqProofs [*, downTo, hqb]) | (with_reducible refine condC_not (fun hq => ?_) (fun hq => ?_) <;> (try simp at hq) <;> simp -implicitDefEqProofs [*, downTo, hqb]) | (with_reducible refine condC_split (fun hq => ?_) (fun hq => ?_) <;> (try simp at hq) <;> simp -implicitDefEqProofs [*, downTo, hqb]) | (refine appK2_if (by omega) ?_; simp -implicitDefEqProofs [*, downTo, hqb]) | (refine pureV_if (by omega) ?_; simp -implicitDefEqProofs [*, downTo, hqb]))
  refine callThen_nil rfl m1 (by have := nrmLL_mrow0 [q]; simpa [hqb] using this) ?_
  simp -implicitDefEqProofs
  repeat' (first | (refine callThen_of (by first | exact n2 | exact den_nrm (n2) | exact den_nrm (by simpa using n2) | exact m2 | exact den_nrm (m2) | exact den_nrm (by simpa using m2) | exact law_Num _) ?_; simp -implicitDefEqProofs [*, downTo]) | (with_reducible refine gOps_dec (fun _ => ?_) (fun _ => ?_) <;> simp -implicitDefEqProofs [*, downTo]) | (with_reducible refine gOps_ndec (fun _ => ?_) (fun _ => ?_) <;> simp -implicitDefEqProofs [*, downTo]) | (with_reducible refine gOps_and (fun hq => ?_) (fun hq => ?_) <;> (try simp at hq) <;> simp -implicitDefEqProofs [*, downTo]) | (with_reducible refine gOps_or (fun hq => ?_) (fun hq => ?_) <;> (try simp at hq) <;> simp -implicitDefEqProofs [*, downTo]) | (with_reducible refine gOps_not (fun hq => ?_) (fun hq => ?_) <;> (try simp at hq) <;> simp -implicitDefEqProofs [*, downTo]) | (with_reducible refine gOps_split (fun hq => ?_) (fun hq => ?_) <;> (try simp at hq) <;> simp -implicitDefEqProofs [*, downTo]) | (with_reducible refine condC_dec (fun _ => ?_) (fun _ => ?_) <;> simp -implicitDefEqProofs [*, downTo]) | (with_reducible refine condC_ndec (fun _ => ?_) (fun _ => ?_) <;> simp -implicitDefEqProofs [*, downTo]) | (with_reducible refine condC_and (fun hq => ?_) (fun hq => ?_) <;> (try simp at hq) <;> simp -implicitDefEqProofs [*, downTo]) | (with_reducible refine condC_or (fun hq => ?_) (fun hq => ?_) <;> (try simp at hq) <;> simp -implicitDefEqProofs [*, downTo]) | (with_reducible refine condC_not (fun hq => ?_) (fun hq => ?_) <;> (try simp at hq) <;> simp -implicitDefEqProofs [*, downTo]) | (with_reducible refine condC_split (fun hq => ?_) (fun hq => ?_) <;> (try simp at hq) <;> simp -implicitDefEqProofs [*, downTo]) | (refine appK2_if (by omega) ?_; simp -implicitDefEqProofs [*, downTo]) | (refine pureV_if (by omega) ?_; simp -implicitDefEqProofs [*, downTo]))
  refine lendThen_frame [4, 5, 6, 7] rfl (by decide) (by simp) s1 (by simp) (by simp [lentBs]) ?_
  simp -implicitDefEqProofs [framed]
  refine lendThen_frame [] rfl (by decide) (by simp) s2 (by simp) (by simp [lentBs]) ?_
  simp -implicitDefEqProofs [framed]
  refine lendThen_frame [8] rfl (by decide) (by simp) z1 (by simp) (by simp [lentBs]) ?_
  simp -implicitDefEqProofs [framed]
  refine lendThen_frame [11] rfl (by decide) (by simp) z2 (by simp) (by simp [lentBs]) ?_
  simp -implicitDefEqProofs [framed]
  repeat' (first | (refine callThen_of (by first | exact n0 | exact q0 | exact law21_awake) ?_; simp -implicitDefEqProofs [*]) | (with_reducible refine gOps_dec (fun _ => ?_) (fun _ => ?_) <;> simp -implicitDefEqProofs [*]) | (with_reducible refine gOps_ndec (fun _ => ?_) (fun _ => ?_) <;> simp -implicitDefEqProofs [*]) | (with_reducible refine gOps_and (fun hq => ?_) (fun hq => ?_) <;> (try simp at hq) <;> simp -implicitDefEqProofs [*]) | (with_reducible refine gOps_or (fun hq => ?_) (fun hq => ?_) <;> (try simp at hq) <;> simp -implicitDefEqProofs [*]) | (with_reducible refine gOps_not (fun hq => ?_) (fun hq => ?_) <;> (try simp at hq) <;> simp -implicitDefEqProofs [*]) | (with_reducible refine gOps_split (fun hq => ?_) (fun hq => ?_) <;> (try simp at hq) <;> simp -implicitDefEqProofs [*]) | (with_reducible refine condC_dec (fun _ => ?_) (fun _ => ?_) <;> simp -implicitDefEqProofs [*]) | (with_reducible refine condC_ndec (fun _ => ?_) (fun _ => ?_) <;> simp -implicitDefEqProofs [*]) | (with_reducible refine condC_and (fun hq => ?_) (fun hq => ?_) <;> (try simp at hq) <;> simp -implicitDefEqProofs [*]) | (with_reducible refine condC_or (fun hq => ?_) (fun hq => ?_) <;> (try simp at hq) <;> simp -implicitDefEqProofs [*]) | (with_reducible refine condC_not (fun hq => ?_) (fun hq => ?_) <;> (try simp at hq) <;> simp -implicitDefEqProofs [*]) | (with_reducible refine condC_split (fun hq => ?_) (fun hq => ?_) <;> (try simp at hq) <;> simp -implicitDefEqProofs [*]) | (refine appK2_if (by omega) ?_; simp -implicitDefEqProofs [*]) | (refine pureV_if (by omega) ?_; simp -implicitDefEqProofs [*]))
theorem law21_Asks_CAB (x : Node) (key : Int) (m : Msg) (hs : x.small) (hm : m.ids.length ≤ cap) (hu : nodeUp x = true) (hk : place key = true) (ho : (ownerV x.view key).1 ≠ x.view.id) (ha : toB x m 2 = false) (ht : toB x m 3 = true) : Den PP 3 [nodeD x, .int .i64 key, msgD m] [] (.bool true) [] := by
  have g0 := law_CopyNode x hs
  have c0 := law_CopyMsg m hm
  have n0 := law_SameNode x x hs
  have q0 := law_SameMsg m m hm
  obtain ⟨l1, l2, l3, l4⟩ := nodeUp_small hu
  have g1 := ask_Get_far x key hs hu hk ho
  have g2 := ref_Get_far x key hs hu hk ho
  have n1 := law_SameNode x x hs
  generalize hq : askOf x (ownerV x.view key).1 key = q at *
  have hqi : q.ids = [] := by rw [← hq]; rfl
  clear hq
  have hqb : q.bare = q := by cases q; simp only at hqi; subst hqi; rfl
  have m1 := law_SameMsgs [q] [q] (by unfold cap16; simp) (by intro y hy; rw [List.mem_singleton.1 hy, hqi]; simp)
  have s1 := law_SpoilNode x (by unfold cap16; omega) (by unfold cap16; omega) (by unfold cap16; omega) (by unfold cap16; omega)
  have z1 := law_SpoilMsgs [q] (by unfold cap16; simp)
  clear ho hk hqi
  have a1 := ask_Answer_no x m hs hm ha
  have a2 := ref_Answer_no x m hs hm ha
  have m2 := law_SameMsgs [] [] (by unfold cap16; simp) (by simp)
  have z2 := law_SpoilMsgs [] (by unfold cap16; simp)
  have t1 := ask_Told_ok x m hs hm ht
  have t2 := ref_Told_ok x m hs hm ht
  obtain ⟨d1, d2⟩ := logOf_len (t := mT m) l4
  generalize logOf x (mT m) = ys at *
  generalize logPre x (mT m) = pre2 at *
  have n2 := law_SameNode { x with log := ys } { x with log := ys } (small_log hs d1)
  have s2 := law_SpoilNode_at x pre2 ys (by unfold cap16; omega) (by unfold cap16; omega) (by unfold cap16; omega) (by unfold cap16; omega) (by unfold cap16; omega)
  clear ha ht
  clear hu
  clear l1 l2 l3 l4
  simp only [nodeD, Node.cells, viewD, View.cells, peersD, intsD, itemsD, toldsD, Item.row, noteD, noteB, copyD, nodeB, msgsD, msgD, Msg.row, zeroNode, List.map_nil, List.map_cons, List.length_nil, List.length_cons, List.nil_append, List.cons_append] at g0 c0 n0 q0 g1 g2 n1 s1 z1 a1 a2 z2 t1 t2 n2 s2 ⊢
  simp only [msgsD, List.map_nil, List.map_cons, List.length_nil, List.length_cons] at m1 m2
  refine den_of [30, 44, 56] [105, 107, 109, 111] is_gimmallaw21_Asks ?_
  simp -implicitDefEqProofs [c_gimmallaw21_Asks, Msg.row, hqb]
  repeat' (first | (refine callThen_of (by first | exact g0 | exact c0 | exact g1 | exact g2 | exact a1 | exact a2 | exact t1 | exact t2 | exact n1 | exact den_nrm (n1) | exact den_nrm (by simpa using n1) | exact n2 | exact den_nrm (n2) | exact den_nrm (by simpa using n2) | exact m1 | exact den_nrm (m1) | exact den_nrm (by simpa using m1) | exact m2 | exact den_nrm (m2) | exact den_nrm (by simpa using m2) | exact law_Num _) ?_; simp -implicitDefEqProofs [*, downTo, hqb]) | (with_reducible refine gOps_dec (fun _ => ?_) (fun _ => ?_) <;> simp -implicitDefEqProofs [*, downTo, hqb]) | (with_reducible refine gOps_ndec (fun _ => ?_) (fun _ => ?_) <;> simp -implicitDefEqProofs [*, downTo, hqb]) | (with_reducible refine gOps_and (fun hq => ?_) (fun hq => ?_) <;> (try simp at hq) <;> simp -implicitDefEqProofs [*, downTo, hqb]) | (with_reducible refine gOps_or (fun hq => ?_) (fun hq => ?_) <;> (try simp at hq) <;> simp -implicitDefEqProofs [*, downTo, hqb]) | (with_reducible refine gOps_not (fun hq => ?_) (fun hq => ?_) <;> (try simp at hq) <;> simp -implicitDefEqProofs [*, downTo, hqb]) | (with_reducible refine gOps_split (fun hq => ?_) (fun hq => ?_) <;> (try simp at hq) <;> simp -implicitDefEqProofs [*, downTo, hqb]) | (with_reducible refine condC_dec (fun _ => ?_) (fun _ => ?_) <;> simp -implicitDefEqProofs [*, downTo, hqb]) | (with_reducible refine condC_ndec (fun _ => ?_) (fun _ => ?_) <;> simp -implicitDefEqProofs [*, downTo, hqb]) | (with_reducible refine condC_and (fun hq => ?_) (fun hq => ?_) <;> (try simp at hq) <;> simp -implicitDefEqProofs [*, downTo, hqb]) | (with_reducible refine condC_or (fun hq => ?_) (fun hq => ?_) <;> (try simp at hq) <;> simp -implicitDefEqProofs [*, downTo, hqb]) | (with_reducible refine condC_not (fun hq => ?_) (fun hq => ?_) <;> (try simp at hq) <;> simp -implicitDefEqProofs [*, downTo, hqb]) | (with_reducible refine condC_split (fun hq => ?_) (fun hq => ?_) <;> (try simp at hq) <;> simp -implicitDefEqProofs [*, downTo, hqb]) | (refine appK2_if (by omega) ?_; simp -implicitDefEqProofs [*, downTo, hqb]) | (refine pureV_if (by omega) ?_; simp -implicitDefEqProofs [*, downTo, hqb]))
  refine callThen_nil rfl m1 (by have := nrmLL_mrow0 [q]; simpa [hqb] using this) ?_
  simp -implicitDefEqProofs
  repeat' (first | (refine callThen_of (by first | exact n2 | exact den_nrm (n2) | exact den_nrm (by simpa using n2) | exact m2 | exact den_nrm (m2) | exact den_nrm (by simpa using m2) | exact law_Num _) ?_; simp -implicitDefEqProofs [*, downTo]) | (with_reducible refine gOps_dec (fun _ => ?_) (fun _ => ?_) <;> simp -implicitDefEqProofs [*, downTo]) | (with_reducible refine gOps_ndec (fun _ => ?_) (fun _ => ?_) <;> simp -implicitDefEqProofs [*, downTo]) | (with_reducible refine gOps_and (fun hq => ?_) (fun hq => ?_) <;> (try simp at hq) <;> simp -implicitDefEqProofs [*, downTo]) | (with_reducible refine gOps_or (fun hq => ?_) (fun hq => ?_) <;> (try simp at hq) <;> simp -implicitDefEqProofs [*, downTo]) | (with_reducible refine gOps_not (fun hq => ?_) (fun hq => ?_) <;> (try simp at hq) <;> simp -implicitDefEqProofs [*, downTo]) | (with_reducible refine gOps_split (fun hq => ?_) (fun hq => ?_) <;> (try simp at hq) <;> simp -implicitDefEqProofs [*, downTo]) | (with_reducible refine condC_dec (fun _ => ?_) (fun _ => ?_) <;> simp -implicitDefEqProofs [*, downTo]) | (with_reducible refine condC_ndec (fun _ => ?_) (fun _ => ?_) <;> simp -implicitDefEqProofs [*, downTo]) | (with_reducible refine condC_and (fun hq => ?_) (fun hq => ?_) <;> (try simp at hq) <;> simp -implicitDefEqProofs [*, downTo]) | (with_reducible refine condC_or (fun hq => ?_) (fun hq => ?_) <;> (try simp at hq) <;> simp -implicitDefEqProofs [*, downTo]) | (with_reducible refine condC_not (fun hq => ?_) (fun hq => ?_) <;> (try simp at hq) <;> simp -implicitDefEqProofs [*, downTo]) | (with_reducible refine condC_split (fun hq => ?_) (fun hq => ?_) <;> (try simp at hq) <;> simp -implicitDefEqProofs [*, downTo]) | (refine appK2_if (by omega) ?_; simp -implicitDefEqProofs [*, downTo]) | (refine pureV_if (by omega) ?_; simp -implicitDefEqProofs [*, downTo]))
  refine lendThen_frame [4, 5, 6, 7] rfl (by decide) (by simp) s1 (by simp) (by simp [lentBs]) ?_
  simp -implicitDefEqProofs [framed]
  refine lendThen_frame [12, 13, 14, 15] rfl (by decide) (by simp) s2 (by simp) (by simp [lentBs]) ?_
  simp -implicitDefEqProofs [framed]
  refine lendThen_frame [8] rfl (by decide) (by simp) z1 (by simp) (by simp [lentBs]) ?_
  simp -implicitDefEqProofs [framed]
  refine lendThen_frame [11] rfl (by decide) (by simp) z2 (by simp) (by simp [lentBs]) ?_
  simp -implicitDefEqProofs [framed]
  repeat' (first | (refine callThen_of (by first | exact n0 | exact q0 | exact law21_awake) ?_; simp -implicitDefEqProofs [*]) | (with_reducible refine gOps_dec (fun _ => ?_) (fun _ => ?_) <;> simp -implicitDefEqProofs [*]) | (with_reducible refine gOps_ndec (fun _ => ?_) (fun _ => ?_) <;> simp -implicitDefEqProofs [*]) | (with_reducible refine gOps_and (fun hq => ?_) (fun hq => ?_) <;> (try simp at hq) <;> simp -implicitDefEqProofs [*]) | (with_reducible refine gOps_or (fun hq => ?_) (fun hq => ?_) <;> (try simp at hq) <;> simp -implicitDefEqProofs [*]) | (with_reducible refine gOps_not (fun hq => ?_) (fun hq => ?_) <;> (try simp at hq) <;> simp -implicitDefEqProofs [*]) | (with_reducible refine gOps_split (fun hq => ?_) (fun hq => ?_) <;> (try simp at hq) <;> simp -implicitDefEqProofs [*]) | (with_reducible refine condC_dec (fun _ => ?_) (fun _ => ?_) <;> simp -implicitDefEqProofs [*]) | (with_reducible refine condC_ndec (fun _ => ?_) (fun _ => ?_) <;> simp -implicitDefEqProofs [*]) | (with_reducible refine condC_and (fun hq => ?_) (fun hq => ?_) <;> (try simp at hq) <;> simp -implicitDefEqProofs [*]) | (with_reducible refine condC_or (fun hq => ?_) (fun hq => ?_) <;> (try simp at hq) <;> simp -implicitDefEqProofs [*]) | (with_reducible refine condC_not (fun hq => ?_) (fun hq => ?_) <;> (try simp at hq) <;> simp -implicitDefEqProofs [*]) | (with_reducible refine condC_split (fun hq => ?_) (fun hq => ?_) <;> (try simp at hq) <;> simp -implicitDefEqProofs [*]) | (refine appK2_if (by omega) ?_; simp -implicitDefEqProofs [*]) | (refine pureV_if (by omega) ?_; simp -implicitDefEqProofs [*]))
theorem law21_Asks_CBA (x : Node) (key : Int) (m : Msg) (hs : x.small) (hm : m.ids.length ≤ cap) (hu : nodeUp x = true) (hk : place key = true) (ho : (ownerV x.view key).1 ≠ x.view.id) (ha : toB x m 2 = true) (ht : toB x m 3 = false) : Den PP 3 [nodeD x, .int .i64 key, msgD m] [] (.bool true) [] := by
  have g0 := law_CopyNode x hs
  have c0 := law_CopyMsg m hm
  have n0 := law_SameNode x x hs
  have q0 := law_SameMsg m m hm
  obtain ⟨l1, l2, l3, l4⟩ := nodeUp_small hu
  have g1 := ask_Get_far x key hs hu hk ho
  have g2 := ref_Get_far x key hs hu hk ho
  have n1 := law_SameNode x x hs
  generalize hq : askOf x (ownerV x.view key).1 key = q at *
  have hqi : q.ids = [] := by rw [← hq]; rfl
  clear hq
  have hqb : q.bare = q := by cases q; simp only at hqi; subst hqi; rfl
  have m1 := law_SameMsgs [q] [q] (by unfold cap16; simp) (by intro y hy; rw [List.mem_singleton.1 hy, hqi]; simp)
  have s1 := law_SpoilNode x (by unfold cap16; omega) (by unfold cap16; omega) (by unfold cap16; omega) (by unfold cap16; omega)
  have z1 := law_SpoilMsgs [q] (by unfold cap16; simp)
  clear ho hk hqi
  have a1 := ask_Answer_ok x m hs hm ha
  have a2 := ref_Answer_ok x m hs hm ha
  generalize hw : tellOf x m = w at *
  have hwi : w.ids = [] := by rw [← hw]; rfl
  clear hw
  have hwb : w.bare = w := by cases w; simp only at hwi; subst hwi; rfl
  have m2 := law_SameMsgs [w] [w] (by unfold cap16; simp) (by intro y hy; rw [List.mem_singleton.1 hy, hwi]; simp)
  have z2 := law_SpoilMsgs [w] (by unfold cap16; simp)
  clear hwi
  have t1 := ask_Told_no x m hs hm ht
  have t2 := ref_Told_no x m hs hm ht
  have n2 := law_SameNode zeroNode zeroNode small_zero
  have s2 := law_SpoilNode_nil false 0
  clear ha ht
  clear hu
  clear l1 l2 l3 l4
  simp only [nodeD, Node.cells, viewD, View.cells, peersD, intsD, itemsD, toldsD, Item.row, noteD, noteB, copyD, nodeB, msgsD, msgD, Msg.row, zeroNode, List.map_nil, List.map_cons, List.length_nil, List.length_cons, List.nil_append, List.cons_append] at g0 c0 n0 q0 g1 g2 n1 s1 z1 a1 a2 z2 t1 t2 n2 s2 ⊢
  simp only [msgsD, List.map_nil, List.map_cons, List.length_nil, List.length_cons] at m1 m2
  refine den_of [30, 44, 56] [105, 107, 109, 111] is_gimmallaw21_Asks ?_
  simp -implicitDefEqProofs [c_gimmallaw21_Asks, Msg.row, hqb, hwb]
  repeat' (first | (refine callThen_of (by first | exact g0 | exact c0 | exact g1 | exact g2 | exact a1 | exact a2 | exact t1 | exact t2 | exact n1 | exact den_nrm (n1) | exact den_nrm (by simpa using n1) | exact n2 | exact den_nrm (n2) | exact den_nrm (by simpa using n2) | exact m1 | exact den_nrm (m1) | exact den_nrm (by simpa using m1) | exact m2 | exact den_nrm (m2) | exact den_nrm (by simpa using m2) | exact law_Num _) ?_; simp -implicitDefEqProofs [*, downTo, hqb, hwb]) | (with_reducible refine gOps_dec (fun _ => ?_) (fun _ => ?_) <;> simp -implicitDefEqProofs [*, downTo, hqb, hwb]) | (with_reducible refine gOps_ndec (fun _ => ?_) (fun _ => ?_) <;> simp -implicitDefEqProofs [*, downTo, hqb, hwb]) | (with_reducible refine gOps_and (fun hq => ?_) (fun hq => ?_) <;> (try simp at hq) <;> simp -implicitDefEqProofs [*, downTo, hqb, hwb]) | (with_reducible refine gOps_or (fun hq => ?_) (fun hq => ?_) <;> (try simp at hq) <;> simp -implicitDefEqProofs [*, downTo, hqb, hwb]) | (with_reducible refine gOps_not (fun hq => ?_) (fun hq => ?_) <;> (try simp at hq) <;> simp -implicitDefEqProofs [*, downTo, hqb, hwb]) | (with_reducible refine gOps_split (fun hq => ?_) (fun hq => ?_) <;> (try simp at hq) <;> simp -implicitDefEqProofs [*, downTo, hqb, hwb]) | (with_reducible refine condC_dec (fun _ => ?_) (fun _ => ?_) <;> simp -implicitDefEqProofs [*, downTo, hqb, hwb]) | (with_reducible refine condC_ndec (fun _ => ?_) (fun _ => ?_) <;> simp -implicitDefEqProofs [*, downTo, hqb, hwb]) | (with_reducible refine condC_and (fun hq => ?_) (fun hq => ?_) <;> (try simp at hq) <;> simp -implicitDefEqProofs [*, downTo, hqb, hwb]) | (with_reducible refine condC_or (fun hq => ?_) (fun hq => ?_) <;> (try simp at hq) <;> simp -implicitDefEqProofs [*, downTo, hqb, hwb]) | (with_reducible refine condC_not (fun hq => ?_) (fun hq => ?_) <;> (try simp at hq) <;> simp -implicitDefEqProofs [*, downTo, hqb, hwb]) | (with_reducible refine condC_split (fun hq => ?_) (fun hq => ?_) <;> (try simp at hq) <;> simp -implicitDefEqProofs [*, downTo, hqb, hwb]) | (refine appK2_if (by omega) ?_; simp -implicitDefEqProofs [*, downTo, hqb, hwb]) | (refine pureV_if (by omega) ?_; simp -implicitDefEqProofs [*, downTo, hqb, hwb]))
  refine callThen_nil rfl m1 (by have := nrmLL_mrow0 [q]; simpa [hqb] using this) ?_
  simp -implicitDefEqProofs
  repeat' (first | (refine callThen_of (by first | exact n2 | exact den_nrm (n2) | exact den_nrm (by simpa using n2) | exact m2 | exact den_nrm (m2) | exact den_nrm (by simpa using m2) | exact law_Num _) ?_; simp -implicitDefEqProofs [*, downTo]) | (with_reducible refine gOps_dec (fun _ => ?_) (fun _ => ?_) <;> simp -implicitDefEqProofs [*, downTo]) | (with_reducible refine gOps_ndec (fun _ => ?_) (fun _ => ?_) <;> simp -implicitDefEqProofs [*, downTo]) | (with_reducible refine gOps_and (fun hq => ?_) (fun hq => ?_) <;> (try simp at hq) <;> simp -implicitDefEqProofs [*, downTo]) | (with_reducible refine gOps_or (fun hq => ?_) (fun hq => ?_) <;> (try simp at hq) <;> simp -implicitDefEqProofs [*, downTo]) | (with_reducible refine gOps_not (fun hq => ?_) (fun hq => ?_) <;> (try simp at hq) <;> simp -implicitDefEqProofs [*, downTo]) | (with_reducible refine gOps_split (fun hq => ?_) (fun hq => ?_) <;> (try simp at hq) <;> simp -implicitDefEqProofs [*, downTo]) | (with_reducible refine condC_dec (fun _ => ?_) (fun _ => ?_) <;> simp -implicitDefEqProofs [*, downTo]) | (with_reducible refine condC_ndec (fun _ => ?_) (fun _ => ?_) <;> simp -implicitDefEqProofs [*, downTo]) | (with_reducible refine condC_and (fun hq => ?_) (fun hq => ?_) <;> (try simp at hq) <;> simp -implicitDefEqProofs [*, downTo]) | (with_reducible refine condC_or (fun hq => ?_) (fun hq => ?_) <;> (try simp at hq) <;> simp -implicitDefEqProofs [*, downTo]) | (with_reducible refine condC_not (fun hq => ?_) (fun hq => ?_) <;> (try simp at hq) <;> simp -implicitDefEqProofs [*, downTo]) | (with_reducible refine condC_split (fun hq => ?_) (fun hq => ?_) <;> (try simp at hq) <;> simp -implicitDefEqProofs [*, downTo]) | (refine appK2_if (by omega) ?_; simp -implicitDefEqProofs [*, downTo]) | (refine pureV_if (by omega) ?_; simp -implicitDefEqProofs [*, downTo]))
  refine callThen_nil rfl m2 (by have := nrmLL_mrow0 [w]; simpa [hwb] using this) ?_
  simp -implicitDefEqProofs
  repeat' (first | (refine callThen_of (by first | exact n2 | exact den_nrm (n2) | exact den_nrm (by simpa using n2) | exact law_Num _) ?_; simp -implicitDefEqProofs [*, downTo]) | (with_reducible refine gOps_dec (fun _ => ?_) (fun _ => ?_) <;> simp -implicitDefEqProofs [*, downTo]) | (with_reducible refine gOps_ndec (fun _ => ?_) (fun _ => ?_) <;> simp -implicitDefEqProofs [*, downTo]) | (with_reducible refine gOps_and (fun hq => ?_) (fun hq => ?_) <;> (try simp at hq) <;> simp -implicitDefEqProofs [*, downTo]) | (with_reducible refine gOps_or (fun hq => ?_) (fun hq => ?_) <;> (try simp at hq) <;> simp -implicitDefEqProofs [*, downTo]) | (with_reducible refine gOps_not (fun hq => ?_) (fun hq => ?_) <;> (try simp at hq) <;> simp -implicitDefEqProofs [*, downTo]) | (with_reducible refine gOps_split (fun hq => ?_) (fun hq => ?_) <;> (try simp at hq) <;> simp -implicitDefEqProofs [*, downTo]) | (with_reducible refine condC_dec (fun _ => ?_) (fun _ => ?_) <;> simp -implicitDefEqProofs [*, downTo]) | (with_reducible refine condC_ndec (fun _ => ?_) (fun _ => ?_) <;> simp -implicitDefEqProofs [*, downTo]) | (with_reducible refine condC_and (fun hq => ?_) (fun hq => ?_) <;> (try simp at hq) <;> simp -implicitDefEqProofs [*, downTo]) | (with_reducible refine condC_or (fun hq => ?_) (fun hq => ?_) <;> (try simp at hq) <;> simp -implicitDefEqProofs [*, downTo]) | (with_reducible refine condC_not (fun hq => ?_) (fun hq => ?_) <;> (try simp at hq) <;> simp -implicitDefEqProofs [*, downTo]) | (with_reducible refine condC_split (fun hq => ?_) (fun hq => ?_) <;> (try simp at hq) <;> simp -implicitDefEqProofs [*, downTo]) | (refine appK2_if (by omega) ?_; simp -implicitDefEqProofs [*, downTo]) | (refine pureV_if (by omega) ?_; simp -implicitDefEqProofs [*, downTo]))
  refine lendThen_frame [4, 5, 6, 7] rfl (by decide) (by simp) s1 (by simp) (by simp [lentBs]) ?_
  simp -implicitDefEqProofs [framed]
  refine lendThen_frame [] rfl (by decide) (by simp) s2 (by simp) (by simp [lentBs]) ?_
  simp -implicitDefEqProofs [framed]
  refine lendThen_frame [8] rfl (by decide) (by simp) z1 (by simp) (by simp [lentBs]) ?_
  simp -implicitDefEqProofs [framed]
  refine lendThen_frame [11] rfl (by decide) (by simp) z2 (by simp) (by simp [lentBs]) ?_
  simp -implicitDefEqProofs [framed]
  repeat' (first | (refine callThen_of (by first | exact n0 | exact q0 | exact law21_awake) ?_; simp -implicitDefEqProofs [*]) | (with_reducible refine gOps_dec (fun _ => ?_) (fun _ => ?_) <;> simp -implicitDefEqProofs [*]) | (with_reducible refine gOps_ndec (fun _ => ?_) (fun _ => ?_) <;> simp -implicitDefEqProofs [*]) | (with_reducible refine gOps_and (fun hq => ?_) (fun hq => ?_) <;> (try simp at hq) <;> simp -implicitDefEqProofs [*]) | (with_reducible refine gOps_or (fun hq => ?_) (fun hq => ?_) <;> (try simp at hq) <;> simp -implicitDefEqProofs [*]) | (with_reducible refine gOps_not (fun hq => ?_) (fun hq => ?_) <;> (try simp at hq) <;> simp -implicitDefEqProofs [*]) | (with_reducible refine gOps_split (fun hq => ?_) (fun hq => ?_) <;> (try simp at hq) <;> simp -implicitDefEqProofs [*]) | (with_reducible refine condC_dec (fun _ => ?_) (fun _ => ?_) <;> simp -implicitDefEqProofs [*]) | (with_reducible refine condC_ndec (fun _ => ?_) (fun _ => ?_) <;> simp -implicitDefEqProofs [*]) | (with_reducible refine condC_and (fun hq => ?_) (fun hq => ?_) <;> (try simp at hq) <;> simp -implicitDefEqProofs [*]) | (with_reducible refine condC_or (fun hq => ?_) (fun hq => ?_) <;> (try simp at hq) <;> simp -implicitDefEqProofs [*]) | (with_reducible refine condC_not (fun hq => ?_) (fun hq => ?_) <;> (try simp at hq) <;> simp -implicitDefEqProofs [*]) | (with_reducible refine condC_split (fun hq => ?_) (fun hq => ?_) <;> (try simp at hq) <;> simp -implicitDefEqProofs [*]) | (refine appK2_if (by omega) ?_; simp -implicitDefEqProofs [*]) | (refine pureV_if (by omega) ?_; simp -implicitDefEqProofs [*]))
theorem law21_Asks_CBB (x : Node) (key : Int) (m : Msg) (hs : x.small) (hm : m.ids.length ≤ cap) (hu : nodeUp x = true) (hk : place key = true) (ho : (ownerV x.view key).1 ≠ x.view.id) (ha : toB x m 2 = true) (ht : toB x m 3 = true) : Den PP 3 [nodeD x, .int .i64 key, msgD m] [] (.bool true) [] := by
  have g0 := law_CopyNode x hs
  have c0 := law_CopyMsg m hm
  have n0 := law_SameNode x x hs
  have q0 := law_SameMsg m m hm
  obtain ⟨l1, l2, l3, l4⟩ := nodeUp_small hu
  have g1 := ask_Get_far x key hs hu hk ho
  have g2 := ref_Get_far x key hs hu hk ho
  have n1 := law_SameNode x x hs
  generalize hq : askOf x (ownerV x.view key).1 key = q at *
  have hqi : q.ids = [] := by rw [← hq]; rfl
  clear hq
  have hqb : q.bare = q := by cases q; simp only at hqi; subst hqi; rfl
  have m1 := law_SameMsgs [q] [q] (by unfold cap16; simp) (by intro y hy; rw [List.mem_singleton.1 hy, hqi]; simp)
  have s1 := law_SpoilNode x (by unfold cap16; omega) (by unfold cap16; omega) (by unfold cap16; omega) (by unfold cap16; omega)
  have z1 := law_SpoilMsgs [q] (by unfold cap16; simp)
  clear ho hk hqi
  have a1 := ask_Answer_ok x m hs hm ha
  have a2 := ref_Answer_ok x m hs hm ha
  generalize hw : tellOf x m = w at *
  have hwi : w.ids = [] := by rw [← hw]; rfl
  clear hw
  have hwb : w.bare = w := by cases w; simp only at hwi; subst hwi; rfl
  have m2 := law_SameMsgs [w] [w] (by unfold cap16; simp) (by intro y hy; rw [List.mem_singleton.1 hy, hwi]; simp)
  have z2 := law_SpoilMsgs [w] (by unfold cap16; simp)
  clear hwi
  have t1 := ask_Told_ok x m hs hm ht
  have t2 := ref_Told_ok x m hs hm ht
  obtain ⟨d1, d2⟩ := logOf_len (t := mT m) l4
  generalize logOf x (mT m) = ys at *
  generalize logPre x (mT m) = pre2 at *
  have n2 := law_SameNode { x with log := ys } { x with log := ys } (small_log hs d1)
  have s2 := law_SpoilNode_at x pre2 ys (by unfold cap16; omega) (by unfold cap16; omega) (by unfold cap16; omega) (by unfold cap16; omega) (by unfold cap16; omega)
  clear ha ht
  clear hu
  clear l1 l2 l3 l4
  simp only [nodeD, Node.cells, viewD, View.cells, peersD, intsD, itemsD, toldsD, Item.row, noteD, noteB, copyD, nodeB, msgsD, msgD, Msg.row, zeroNode, List.map_nil, List.map_cons, List.length_nil, List.length_cons, List.nil_append, List.cons_append] at g0 c0 n0 q0 g1 g2 n1 s1 z1 a1 a2 z2 t1 t2 n2 s2 ⊢
  simp only [msgsD, List.map_nil, List.map_cons, List.length_nil, List.length_cons] at m1 m2
  refine den_of [30, 44, 56] [105, 107, 109, 111] is_gimmallaw21_Asks ?_
  simp -implicitDefEqProofs [c_gimmallaw21_Asks, Msg.row, hqb, hwb]
  repeat' (first | (refine callThen_of (by first | exact g0 | exact c0 | exact g1 | exact g2 | exact a1 | exact a2 | exact t1 | exact t2 | exact n1 | exact den_nrm (n1) | exact den_nrm (by simpa using n1) | exact n2 | exact den_nrm (n2) | exact den_nrm (by simpa using n2) | exact m1 | exact den_nrm (m1) | exact den_nrm (by simpa using m1) | exact m2 | exact den_nrm (m2) | exact den_nrm (by simpa using m2) | exact law_Num _) ?_; simp -implicitDefEqProofs [*, downTo, hqb, hwb]) | (with_reducible refine gOps_dec (fun _ => ?_) (fun _ => ?_) <;> simp -implicitDefEqProofs [*, downTo, hqb, hwb]) | (with_reducible refine gOps_ndec (fun _ => ?_) (fun _ => ?_) <;> simp -implicitDefEqProofs [*, downTo, hqb, hwb]) | (with_reducible refine gOps_and (fun hq => ?_) (fun hq => ?_) <;> (try simp at hq) <;> simp -implicitDefEqProofs [*, downTo, hqb, hwb]) | (with_reducible refine gOps_or (fun hq => ?_) (fun hq => ?_) <;> (try simp at hq) <;> simp -implicitDefEqProofs [*, downTo, hqb, hwb]) | (with_reducible refine gOps_not (fun hq => ?_) (fun hq => ?_) <;> (try simp at hq) <;> simp -implicitDefEqProofs [*, downTo, hqb, hwb]) | (with_reducible refine gOps_split (fun hq => ?_) (fun hq => ?_) <;> (try simp at hq) <;> simp -implicitDefEqProofs [*, downTo, hqb, hwb]) | (with_reducible refine condC_dec (fun _ => ?_) (fun _ => ?_) <;> simp -implicitDefEqProofs [*, downTo, hqb, hwb]) | (with_reducible refine condC_ndec (fun _ => ?_) (fun _ => ?_) <;> simp -implicitDefEqProofs [*, downTo, hqb, hwb]) | (with_reducible refine condC_and (fun hq => ?_) (fun hq => ?_) <;> (try simp at hq) <;> simp -implicitDefEqProofs [*, downTo, hqb, hwb]) | (with_reducible refine condC_or (fun hq => ?_) (fun hq => ?_) <;> (try simp at hq) <;> simp -implicitDefEqProofs [*, downTo, hqb, hwb]) | (with_reducible refine condC_not (fun hq => ?_) (fun hq => ?_) <;> (try simp at hq) <;> simp -implicitDefEqProofs [*, downTo, hqb, hwb]) | (with_reducible refine condC_split (fun hq => ?_) (fun hq => ?_) <;> (try simp at hq) <;> simp -implicitDefEqProofs [*, downTo, hqb, hwb]) | (refine appK2_if (by omega) ?_; simp -implicitDefEqProofs [*, downTo, hqb, hwb]) | (refine pureV_if (by omega) ?_; simp -implicitDefEqProofs [*, downTo, hqb, hwb]))
  refine callThen_nil rfl m1 (by have := nrmLL_mrow0 [q]; simpa [hqb] using this) ?_
  simp -implicitDefEqProofs
  repeat' (first | (refine callThen_of (by first | exact n2 | exact den_nrm (n2) | exact den_nrm (by simpa using n2) | exact m2 | exact den_nrm (m2) | exact den_nrm (by simpa using m2) | exact law_Num _) ?_; simp -implicitDefEqProofs [*, downTo]) | (with_reducible refine gOps_dec (fun _ => ?_) (fun _ => ?_) <;> simp -implicitDefEqProofs [*, downTo]) | (with_reducible refine gOps_ndec (fun _ => ?_) (fun _ => ?_) <;> simp -implicitDefEqProofs [*, downTo]) | (with_reducible refine gOps_and (fun hq => ?_) (fun hq => ?_) <;> (try simp at hq) <;> simp -implicitDefEqProofs [*, downTo]) | (with_reducible refine gOps_or (fun hq => ?_) (fun hq => ?_) <;> (try simp at hq) <;> simp -implicitDefEqProofs [*, downTo]) | (with_reducible refine gOps_not (fun hq => ?_) (fun hq => ?_) <;> (try simp at hq) <;> simp -implicitDefEqProofs [*, downTo]) | (with_reducible refine gOps_split (fun hq => ?_) (fun hq => ?_) <;> (try simp at hq) <;> simp -implicitDefEqProofs [*, downTo]) | (with_reducible refine condC_dec (fun _ => ?_) (fun _ => ?_) <;> simp -implicitDefEqProofs [*, downTo]) | (with_reducible refine condC_ndec (fun _ => ?_) (fun _ => ?_) <;> simp -implicitDefEqProofs [*, downTo]) | (with_reducible refine condC_and (fun hq => ?_) (fun hq => ?_) <;> (try simp at hq) <;> simp -implicitDefEqProofs [*, downTo]) | (with_reducible refine condC_or (fun hq => ?_) (fun hq => ?_) <;> (try simp at hq) <;> simp -implicitDefEqProofs [*, downTo]) | (with_reducible refine condC_not (fun hq => ?_) (fun hq => ?_) <;> (try simp at hq) <;> simp -implicitDefEqProofs [*, downTo]) | (with_reducible refine condC_split (fun hq => ?_) (fun hq => ?_) <;> (try simp at hq) <;> simp -implicitDefEqProofs [*, downTo]) | (refine appK2_if (by omega) ?_; simp -implicitDefEqProofs [*, downTo]) | (refine pureV_if (by omega) ?_; simp -implicitDefEqProofs [*, downTo]))
  refine callThen_nil rfl m2 (by have := nrmLL_mrow0 [w]; simpa [hwb] using this) ?_
  simp -implicitDefEqProofs
  repeat' (first | (refine callThen_of (by first | exact n2 | exact den_nrm (n2) | exact den_nrm (by simpa using n2) | exact law_Num _) ?_; simp -implicitDefEqProofs [*, downTo]) | (with_reducible refine gOps_dec (fun _ => ?_) (fun _ => ?_) <;> simp -implicitDefEqProofs [*, downTo]) | (with_reducible refine gOps_ndec (fun _ => ?_) (fun _ => ?_) <;> simp -implicitDefEqProofs [*, downTo]) | (with_reducible refine gOps_and (fun hq => ?_) (fun hq => ?_) <;> (try simp at hq) <;> simp -implicitDefEqProofs [*, downTo]) | (with_reducible refine gOps_or (fun hq => ?_) (fun hq => ?_) <;> (try simp at hq) <;> simp -implicitDefEqProofs [*, downTo]) | (with_reducible refine gOps_not (fun hq => ?_) (fun hq => ?_) <;> (try simp at hq) <;> simp -implicitDefEqProofs [*, downTo]) | (with_reducible refine gOps_split (fun hq => ?_) (fun hq => ?_) <;> (try simp at hq) <;> simp -implicitDefEqProofs [*, downTo]) | (with_reducible refine condC_dec (fun _ => ?_) (fun _ => ?_) <;> simp -implicitDefEqProofs [*, downTo]) | (with_reducible refine condC_ndec (fun _ => ?_) (fun _ => ?_) <;> simp -implicitDefEqProofs [*, downTo]) | (with_reducible refine condC_and (fun hq => ?_) (fun hq => ?_) <;> (try simp at hq) <;> simp -implicitDefEqProofs [*, downTo]) | (with_reducible refine condC_or (fun hq => ?_) (fun hq => ?_) <;> (try simp at hq) <;> simp -implicitDefEqProofs [*, downTo]) | (with_reducible refine condC_not (fun hq => ?_) (fun hq => ?_) <;> (try simp at hq) <;> simp -implicitDefEqProofs [*, downTo]) | (with_reducible refine condC_split (fun hq => ?_) (fun hq => ?_) <;> (try simp at hq) <;> simp -implicitDefEqProofs [*, downTo]) | (refine appK2_if (by omega) ?_; simp -implicitDefEqProofs [*, downTo]) | (refine pureV_if (by omega) ?_; simp -implicitDefEqProofs [*, downTo]))
  refine lendThen_frame [4, 5, 6, 7] rfl (by decide) (by simp) s1 (by simp) (by simp [lentBs]) ?_
  simp -implicitDefEqProofs [framed]
  refine lendThen_frame [12, 13, 14, 15] rfl (by decide) (by simp) s2 (by simp) (by simp [lentBs]) ?_
  simp -implicitDefEqProofs [framed]
  refine lendThen_frame [8] rfl (by decide) (by simp) z1 (by simp) (by simp [lentBs]) ?_
  simp -implicitDefEqProofs [framed]
  refine lendThen_frame [11] rfl (by decide) (by simp) z2 (by simp) (by simp [lentBs]) ?_
  simp -implicitDefEqProofs [framed]
  repeat' (first | (refine callThen_of (by first | exact n0 | exact q0 | exact law21_awake) ?_; simp -implicitDefEqProofs [*]) | (with_reducible refine gOps_dec (fun _ => ?_) (fun _ => ?_) <;> simp -implicitDefEqProofs [*]) | (with_reducible refine gOps_ndec (fun _ => ?_) (fun _ => ?_) <;> simp -implicitDefEqProofs [*]) | (with_reducible refine gOps_and (fun hq => ?_) (fun hq => ?_) <;> (try simp at hq) <;> simp -implicitDefEqProofs [*]) | (with_reducible refine gOps_or (fun hq => ?_) (fun hq => ?_) <;> (try simp at hq) <;> simp -implicitDefEqProofs [*]) | (with_reducible refine gOps_not (fun hq => ?_) (fun hq => ?_) <;> (try simp at hq) <;> simp -implicitDefEqProofs [*]) | (with_reducible refine gOps_split (fun hq => ?_) (fun hq => ?_) <;> (try simp at hq) <;> simp -implicitDefEqProofs [*]) | (with_reducible refine condC_dec (fun _ => ?_) (fun _ => ?_) <;> simp -implicitDefEqProofs [*]) | (with_reducible refine condC_ndec (fun _ => ?_) (fun _ => ?_) <;> simp -implicitDefEqProofs [*]) | (with_reducible refine condC_and (fun hq => ?_) (fun hq => ?_) <;> (try simp at hq) <;> simp -implicitDefEqProofs [*]) | (with_reducible refine condC_or (fun hq => ?_) (fun hq => ?_) <;> (try simp at hq) <;> simp -implicitDefEqProofs [*]) | (with_reducible refine condC_not (fun hq => ?_) (fun hq => ?_) <;> (try simp at hq) <;> simp -implicitDefEqProofs [*]) | (with_reducible refine condC_split (fun hq => ?_) (fun hq => ?_) <;> (try simp at hq) <;> simp -implicitDefEqProofs [*]) | (refine appK2_if (by omega) ?_; simp -implicitDefEqProofs [*]) | (refine pureV_if (by omega) ?_; simp -implicitDefEqProofs [*]))
end Go.AM
/- AM: chapter 21's statements: Asks, AskForms, AskHome. -/
namespace Go.AM
set_option linter.unusedSimpArgs false
set_option linter.unusedVariables false
set_option maxRecDepth 8000
set_option maxHeartbeats 0
theorem law21_Asks (x : Node) (key : Int) (m : Msg) (hs : x.small) (hm : m.ids.length ≤ cap) : Den PP 3 [nodeD x, .int .i64 key, msgD m] [] (.bool true) [] := by
  cases h : nodeUp x && place key with
  | false =>
    cases h2 : toB x m 2 <;> cases h3 : toB x m 3
    · exact law21_Asks_AAA x key m hs hm h h2 h3
    · exact law21_Asks_AAB x key m hs hm h h2 h3
    · exact law21_Asks_ABA x key m hs hm h h2 h3
    · exact law21_Asks_ABB x key m hs hm h h2 h3
  | true =>
    rw [Bool.and_eq_true] at h
    by_cases ho : (ownerV x.view key).1 = x.view.id
    · cases h2 : toB x m 2 <;> cases h3 : toB x m 3
      · exact law21_Asks_BAA x key m hs hm h.1 h.2 ho h2 h3
      · exact law21_Asks_BAB x key m hs hm h.1 h.2 ho h2 h3
      · exact law21_Asks_BBA x key m hs hm h.1 h.2 ho h2 h3
      · exact law21_Asks_BBB x key m hs hm h.1 h.2 ho h2 h3
    · cases h2 : toB x m 2 <;> cases h3 : toB x m 3
      · exact law21_Asks_CAA x key m hs hm h.1 h.2 ho h2 h3
      · exact law21_Asks_CAB x key m hs hm h.1 h.2 ho h2 h3
      · exact law21_Asks_CBA x key m hs hm h.1 h.2 ho h2 h3
      · exact law21_Asks_CBB x key m hs hm h.1 h.2 ho h2 h3
@[simp] theorem nrmLL_rep (n : Nat) (r : List D) : nrmLL (List.replicate n r) = List.replicate n (nrmL r) := by
  induction n with
  | zero => rfl
  | succ n ih => simp [List.replicate_succ, nrmLL, ih]
end Go.AM
/- AM: chapter 21's statements: AskThere; messages handed in. -/
namespace Go.AM
set_option linter.unusedSimpArgs false
set_option linter.unusedVariables false
set_option maxRecDepth 8000
set_option maxHeartbeats 0
def Msg.tame (m : Msg) : Prop := m.ids.length * 8 ≤ 140737488351232 ∧ (∀ x ∈ m.ids, in64 x) ∧ in64 m.kind ∧ in64 m.from_ ∧ in64 m.to ∧ in64 m.key ∧ m.item.tame
theorem Msg.tame.ids {m : Msg} (h : m.tame) : m.ids.length ≤ cap := by
  have := h.1
  unfold cap
  omega
theorem tell_Msg {n : Nat} {cs : List D} (h : Tell TT (n + 4) 35 cs) : ∃ m : Msg, cs = m.row ∧ m.tame := by
  unfold Tell at h
  simp [Tell.TellFs] at h
  obtain ⟨a, r1, rfl, h1, b, r2, rfl, h2, c, r3, rfl, h3, d, r4, rfl, h4, e, r5, rfl, h5, f, g, rfl, h6, h7⟩ := h
  obtain ⟨k, rfl, hk⟩ := tell_int h1
  obtain ⟨u, rfl, hu⟩ := tell_int h2
  obtain ⟨v, rfl, hv⟩ := tell_int h3
  obtain ⟨is, rfl, h8, h9⟩ := tell_ints h4
  obtain ⟨w, rfl, hw⟩ := tell_int h5
  obtain ⟨i, rfl, hi⟩ := tell_Item h6
  obtain ⟨b, rfl⟩ := tell_bool h7
  exact ⟨⟨k, u, v, is, w, i, b⟩, rfl, h8, h9, hk, hu, hv, hw, hi⟩
theorem arg_Msg {n : Nat} {d : D} (h : TellArg TT (n + 4) 35 d) : ∃ m : Msg, d = msgD m ∧ m.tame := by
  simp [TellArg] at h
  obtain ⟨cs, rfl, h⟩ := h
  obtain ⟨v, rfl, hv⟩ := tell_Msg h
  exact ⟨v, rfl, hv⟩
end Go.AM
