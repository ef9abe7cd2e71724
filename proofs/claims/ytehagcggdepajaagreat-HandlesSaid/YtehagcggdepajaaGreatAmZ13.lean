/- What the proof of this claim stands on, part 13. -/
import Derived.Test.YtehagcggdepajaaGreatAmZ12
/- AM: chapter 22's statements: Handles; messages handed in. -/
namespace Go.AM
set_option linter.unusedSimpArgs false
set_option linter.unusedVariables false
set_option maxRecDepth 8000
set_option maxHeartbeats 0
theorem law_SpoilMsgs_nil : Den PP 33 [.nil] [] (.tup []) [] := by
  refine den_of [] [] is_gimmallaw0_SpoilMsgs ?_
  simp -implicitDefEqProofs [c_gimmallaw0_SpoilMsgs]
  refine loop_rule 0 (fun _ ⟨fr, bs⟩ => bs = [] ∧ fr 0 = .nil ∧ fr 2 = .int .i64 0) (fun ⟨fr, bs⟩ => bs = []) (fun _ => False) c_gimmallaw0_SpoilMsgs_L0.eq_1 ?_ ?_ ?_ ?_ ?_
  · exact ⟨rfl, rfl, rfl⟩
  · rintro ⟨fr, bs⟩ ⟨rfl, h0, h2⟩
    simp -implicitDefEqProofs [h0, h2]
  · rintro m ⟨fr, bs⟩ ⟨rfl, h0, h2⟩
    simp -implicitDefEqProofs [h0, h2]
  · rintro ⟨fr, bs⟩ rfl
    simp -implicitDefEqProofs
  · rintro ⟨fr, bs⟩ h
    exact h.elim
theorem small_logG {x : Node} (hs : x.small) {xs : List Told} (h : xs.length ≤ 65) : ({ x with log := xs } : Node).small := by
  refine ⟨hs.1, hs.2.1, ?_⟩
  have := hs.2.2
  unfold cap at *
  simp only at *
  omega
theorem logOf_lenG {x : Node} {t : Told} (h : x.log.length ≤ 64) : (logOf x t).length ≤ 65 ∧ (logPre x t).length ≤ 1 := by
  obtain ⟨h1, h2, h3⟩ := log_len x t
  omega
theorem law22_Handles_no (x : Node) (m : Msg) (hs : x.small) (hl : m.ids.length ≤ cap) (h : doB x m = false) : Den PP 6 [nodeD x, msgD m] [] (.bool true) [] := by
  have g0 := law_CopyNode x hs
  have c0 := law_CopyMsg m hl
  have n0 := law_SameNode x x hs
  have q0 := law_SameMsg m m hl
  have a1 := handle_Do_no x m hs hl h
  have a2 := ref_Handle_no x m hs hl h
  have n1 := law_SameNode zeroNode zeroNode small_zero
  have s1 := law_SpoilNode_nil false 0
  have z1 := law_SpoilMsgs [] (by unfold cap16; simp)
  clear h
  have m2 := law_SameMsgs [] [] (by unfold cap16; simp) (by simp)
  simp only [nodeD, Node.cells, viewD, View.cells, peersD, intsD, itemsD, toldsD, Item.row, noteD, noteB, copyD, nodeB, msgsD, msgD, Msg.row, zeroNode, List.map_nil, List.map_cons, List.length_nil, List.length_cons, List.nil_append, List.cons_append] at g0 c0 n0 q0 a1 a2 n1 s1 z1 ⊢
  simp only [msgsD, List.map_nil, List.map_cons, List.length_nil, List.length_cons] at m2
  refine den_of [20] [47, 49] is_gimmallaw22_Handles ?_
  simp -implicitDefEqProofs [c_gimmallaw22_Handles, Msg.row]
  repeat' ((first | refine callThen_of (by first | exact g0 | exact c0 | exact a1 | exact a2 | exact n1 | exact den_nrm (n1) | exact den_nrm (by simpa using n1) | exact m2 | exact den_nrm (m2) | exact den_nrm (by simpa using m2) | exact law_Num _) ?_ | with_reducible refine gOps_dec (fun _ => ?_) (fun _ => ?_) | with_reducible refine gOps_ndec (fun _ => ?_) (fun _ => ?_) | (with_reducible refine gOps_and (fun hq => ?_) (fun hq => ?_) <;> (try simp at hq)) | (with_reducible refine gOps_or (fun hq => ?_) (fun hq => ?_) <;> (try simp at hq)) | (with_reducible refine gOps_not (fun hq => ?_) (fun hq => ?_) <;> (try simp at hq)) | (with_reducible refine gOps_split (fun hq => ?_) (fun hq => ?_) <;> (try simp at hq)) | with_reducible refine condC_dec (fun _ => ?_) (fun _ => ?_) | with_reducible refine condC_ndec (fun _ => ?_) (fun _ => ?_) | (with_reducible refine condC_and (fun hq => ?_) (fun hq => ?_) <;> (try simp at hq)) | (with_reducible refine condC_or (fun hq => ?_) (fun hq => ?_) <;> (try simp at hq)) | (with_reducible refine condC_not (fun hq => ?_) (fun hq => ?_) <;> (try simp at hq)) | (with_reducible refine condC_split (fun hq => ?_) (fun hq => ?_) <;> (try simp at hq)) | refine appK2_if (by omega) ?_ | refine pureV_if (by omega) ?_) <;> simp -implicitDefEqProofs [*, downTo])
  refine lendThen_frame [] rfl (by decide) (by simp) s1 (by simp) (by simp [lentBs]) ?_
  simp -implicitDefEqProofs [framed]
  refine lendThen_frame [4] rfl (by decide) (by simp) z1 (by simp) (by simp [lentBs]) ?_
  simp -implicitDefEqProofs [framed]
  repeat' ((first | refine callThen_of (by first | exact n0 | exact q0 | exact law22_awake) ?_ | with_reducible refine gOps_dec (fun _ => ?_) (fun _ => ?_) | with_reducible refine gOps_ndec (fun _ => ?_) (fun _ => ?_) | (with_reducible refine gOps_and (fun hq => ?_) (fun hq => ?_) <;> (try simp at hq)) | (with_reducible refine gOps_or (fun hq => ?_) (fun hq => ?_) <;> (try simp at hq)) | (with_reducible refine gOps_not (fun hq => ?_) (fun hq => ?_) <;> (try simp at hq)) | (with_reducible refine gOps_split (fun hq => ?_) (fun hq => ?_) <;> (try simp at hq)) | with_reducible refine condC_dec (fun _ => ?_) (fun _ => ?_) | with_reducible refine condC_ndec (fun _ => ?_) (fun _ => ?_) | (with_reducible refine condC_and (fun hq => ?_) (fun hq => ?_) <;> (try simp at hq)) | (with_reducible refine condC_or (fun hq => ?_) (fun hq => ?_) <;> (try simp at hq)) | (with_reducible refine condC_not (fun hq => ?_) (fun hq => ?_) <;> (try simp at hq)) | (with_reducible refine condC_split (fun hq => ?_) (fun hq => ?_) <;> (try simp at hq)) | refine appK2_if (by omega) ?_ | refine pureV_if (by omega) ?_) <;> simp -implicitDefEqProofs [*])
theorem law22_Handles_0 (x : Node) (m : Msg) (hs : x.small) (hl : m.ids.length ≤ cap) (h : doB x m = true) (hk : m.kind = 0) : Den PP 6 [nodeD x, msgD m] [] (.bool true) [] := by
  have g0 := law_CopyNode x hs
  have c0 := law_CopyMsg m hl
  have n0 := law_SameNode x x hs
  have q0 := law_SameMsg m m hl
  obtain ⟨h1, h2, h3⟩ := doB_parts h
  obtain ⟨p1, p2, p3, p4, p5⟩ := nodeUp_parts h1
  obtain ⟨l1, l2, l3, l4⟩ := nodeUp_small h1
  have hok := hello_ok h1 h2 hk h3
  obtain ⟨m1, m2⟩ := helloV_may hok
  have hu : nodeUp { x with view := helloV x.view m.from_ m.ids } = true := nodeUp_of p1 m1 p3 p4 p5
  have a1 := handle_Do_0 x m hs hl h hk
  have a2 := ref_Handle_0 x m hs hl h hk
  obtain ⟨u1, u2, u3, u4⟩ := nodeUp_small hu
  generalize helloV x.view m.from_ m.ids = w at *
  have n1 := law_SameNode { x with view := w } { x with view := w } (nodeUp_small2 hu)
  have s1 := law_SpoilNode { x with view := w } (by unfold cap16; simp only at *; omega) (by unfold cap16; simp only at *; omega) (by unfold cap16; simp only at *; omega) (by unfold cap16; simp only at *; omega)
  clear hok m1 m2 hu u1 u2 u3 u4
  have z1 := law_SpoilMsgs_nil
  clear h h1 h2 h3 p1 p2 p3 p4 p5 l1 l2 l3 l4
  have m2 := law_SameMsgs [] [] (by unfold cap16; simp) (by simp)
  simp only [nodeD, Node.cells, viewD, View.cells, peersD, intsD, itemsD, toldsD, Item.row, noteD, noteB, copyD, nodeB, msgsD, msgD, Msg.row, zeroNode, List.map_nil, List.map_cons, List.length_nil, List.length_cons, List.nil_append, List.cons_append, hk] at g0 c0 n0 q0 a1 a2 n1 s1 z1 ⊢
  simp only [msgsD, List.map_nil, List.map_cons, List.length_nil, List.length_cons] at m2
  refine den_of [20] [47, 49] is_gimmallaw22_Handles ?_
  simp -implicitDefEqProofs [c_gimmallaw22_Handles, Msg.row, hk]
  repeat' ((first | refine callThen_of (by first | exact g0 | exact c0 | exact a1 | exact a2 | exact n1 | exact den_nrm (n1) | exact den_nrm (by simpa using n1) | exact m2 | exact den_nrm (m2) | exact den_nrm (by simpa using m2) | exact law_Num _) ?_ | with_reducible refine gOps_dec (fun _ => ?_) (fun _ => ?_) | with_reducible refine gOps_ndec (fun _ => ?_) (fun _ => ?_) | (with_reducible refine gOps_and (fun hq => ?_) (fun hq => ?_) <;> (try simp at hq)) | (with_reducible refine gOps_or (fun hq => ?_) (fun hq => ?_) <;> (try simp at hq)) | (with_reducible refine gOps_not (fun hq => ?_) (fun hq => ?_) <;> (try simp at hq)) | (with_reducible refine gOps_split (fun hq => ?_) (fun hq => ?_) <;> (try simp at hq)) | with_reducible refine condC_dec (fun _ => ?_) (fun _ => ?_) | with_reducible refine condC_ndec (fun _ => ?_) (fun _ => ?_) | (with_reducible refine condC_and (fun hq => ?_) (fun hq => ?_) <;> (try simp at hq)) | (with_reducible refine condC_or (fun hq => ?_) (fun hq => ?_) <;> (try simp at hq)) | (with_reducible refine condC_not (fun hq => ?_) (fun hq => ?_) <;> (try simp at hq)) | (with_reducible refine condC_split (fun hq => ?_) (fun hq => ?_) <;> (try simp at hq)) | refine appK2_if (by omega) ?_ | refine pureV_if (by omega) ?_) <;> simp -implicitDefEqProofs [*, downTo, hk])
  refine lendThen_frame [4, 5, 6, 7] rfl (by decide) (by simp) s1 (by simp) (by simp [lentBs]) ?_
  simp -implicitDefEqProofs [framed]
  refine lendThen_frame [] rfl (by decide) (by simp) z1 (by simp) (by simp [lentBs]) ?_
  simp -implicitDefEqProofs [framed]
  repeat' ((first | refine callThen_of (by first | exact n0 | exact q0 | exact law22_awake) ?_ | with_reducible refine gOps_dec (fun _ => ?_) (fun _ => ?_) | with_reducible refine gOps_ndec (fun _ => ?_) (fun _ => ?_) | (with_reducible refine gOps_and (fun hq => ?_) (fun hq => ?_) <;> (try simp at hq)) | (with_reducible refine gOps_or (fun hq => ?_) (fun hq => ?_) <;> (try simp at hq)) | (with_reducible refine gOps_not (fun hq => ?_) (fun hq => ?_) <;> (try simp at hq)) | (with_reducible refine gOps_split (fun hq => ?_) (fun hq => ?_) <;> (try simp at hq)) | with_reducible refine condC_dec (fun _ => ?_) (fun _ => ?_) | with_reducible refine condC_ndec (fun _ => ?_) (fun _ => ?_) | (with_reducible refine condC_and (fun hq => ?_) (fun hq => ?_) <;> (try simp at hq)) | (with_reducible refine condC_or (fun hq => ?_) (fun hq => ?_) <;> (try simp at hq)) | (with_reducible refine condC_not (fun hq => ?_) (fun hq => ?_) <;> (try simp at hq)) | (with_reducible refine condC_split (fun hq => ?_) (fun hq => ?_) <;> (try simp at hq)) | refine appK2_if (by omega) ?_ | refine pureV_if (by omega) ?_) <;> simp -implicitDefEqProofs [*, hk])
theorem law22_Handles_1 (x : Node) (m : Msg) (hs : x.small) (hl : m.ids.length ≤ cap) (h : doB x m = true) (hk : m.kind = 1) : Den PP 6 [nodeD x, msgD m] [] (.bool true) [] := by
  have g0 := law_CopyNode x hs
  have c0 := law_CopyMsg m hl
  have n0 := law_SameNode x x hs
  have q0 := law_SameMsg m m hl
  obtain ⟨h1, h2, h3⟩ := doB_parts h
  obtain ⟨p1, p2, p3, p4, p5⟩ := nodeUp_parts h1
  obtain ⟨l1, l2, l3, l4⟩ := nodeUp_small h1
  have hu : nodeUp (takeI x m.item) = true := takeI_up h1
  have a1 := handle_Do_1 x m hs hl h hk
  have a2 := ref_Handle_1 x m hs hl h hk
  obtain ⟨u1, u2, u3, u4⟩ := nodeUp_small hu
  generalize takeI x m.item = y at *
  have n1 := law_SameNode y y (nodeUp_small2 hu)
  have s1 := law_SpoilNode y (by unfold cap16; omega) (by unfold cap16; omega) (by unfold cap16; omega) (by unfold cap16; omega)
  clear hu u1 u2 u3 u4
  have z1 := law_SpoilMsgs_nil
  clear h h1 h2 h3 p1 p2 p3 p4 p5 l1 l2 l3 l4
  have m2 := law_SameMsgs [] [] (by unfold cap16; simp) (by simp)
  simp only [nodeD, Node.cells, viewD, View.cells, peersD, intsD, itemsD, toldsD, Item.row, noteD, noteB, copyD, nodeB, msgsD, msgD, Msg.row, zeroNode, List.map_nil, List.map_cons, List.length_nil, List.length_cons, List.nil_append, List.cons_append, hk] at g0 c0 n0 q0 a1 a2 n1 s1 z1 ⊢
  simp only [msgsD, List.map_nil, List.map_cons, List.length_nil, List.length_cons] at m2
  refine den_of [20] [47, 49] is_gimmallaw22_Handles ?_
  simp -implicitDefEqProofs [c_gimmallaw22_Handles, Msg.row, hk]
  repeat' ((first | refine callThen_of (by first | exact g0 | exact c0 | exact a1 | exact a2 | exact n1 | exact den_nrm (n1) | exact den_nrm (by simpa using n1) | exact m2 | exact den_nrm (m2) | exact den_nrm (by simpa using m2) | exact law_Num _) ?_ | with_reducible refine gOps_dec (fun _ => ?_) (fun _ => ?_) | with_reducible refine gOps_ndec (fun _ => ?_) (fun _ => ?_) | (with_reducible refine gOps_and (fun hq => ?_) (fun hq => ?_) <;> (try simp at hq)) | (with_reducible refine gOps_or (fun hq => ?_) (fun hq => ?_) <;> (try simp at hq)) | (with_reducible refine gOps_not (fun hq => ?_) (fun hq => ?_) <;> (try simp at hq)) | (with_reducible refine gOps_split (fun hq => ?_) (fun hq => ?_) <;> (try simp at hq)) | with_reducible refine condC_dec (fun _ => ?_) (fun _ => ?_) | with_reducible refine condC_ndec (fun _ => ?_) (fun _ => ?_) | (with_reducible refine condC_and (fun hq => ?_) (fun hq => ?_) <;> (try simp at hq)) | (with_reducible refine condC_or (fun hq => ?_) (fun hq => ?_) <;> (try simp at hq)) | (with_reducible refine condC_not (fun hq => ?_) (fun hq => ?_) <;> (try simp at hq)) | (with_reducible refine condC_split (fun hq => ?_) (fun hq => ?_) <;> (try simp at hq)) | refine appK2_if (by omega) ?_ | refine pureV_if (by omega) ?_) <;> simp -implicitDefEqProofs [*, downTo, hk])
  refine lendThen_frame [4, 5, 6, 7] rfl (by decide) (by simp) s1 (by simp) (by simp [lentBs]) ?_
  simp -implicitDefEqProofs [framed]
  refine lendThen_frame [] rfl (by decide) (by simp) z1 (by simp) (by simp [lentBs]) ?_
  simp -implicitDefEqProofs [framed]
  repeat' ((first | refine callThen_of (by first | exact n0 | exact q0 | exact law22_awake) ?_ | with_reducible refine gOps_dec (fun _ => ?_) (fun _ => ?_) | with_reducible refine gOps_ndec (fun _ => ?_) (fun _ => ?_) | (with_reducible refine gOps_and (fun hq => ?_) (fun hq => ?_) <;> (try simp at hq)) | (with_reducible refine gOps_or (fun hq => ?_) (fun hq => ?_) <;> (try simp at hq)) | (with_reducible refine gOps_not (fun hq => ?_) (fun hq => ?_) <;> (try simp at hq)) | (with_reducible refine gOps_split (fun hq => ?_) (fun hq => ?_) <;> (try simp at hq)) | with_reducible refine condC_dec (fun _ => ?_) (fun _ => ?_) | with_reducible refine condC_ndec (fun _ => ?_) (fun _ => ?_) | (with_reducible refine condC_and (fun hq => ?_) (fun hq => ?_) <;> (try simp at hq)) | (with_reducible refine condC_or (fun hq => ?_) (fun hq => ?_) <;> (try simp at hq)) | (with_reducible refine condC_not (fun hq => ?_) (fun hq => ?_) <;> (try simp at hq)) | (with_reducible refine condC_split (fun hq => ?_) (fun hq => ?_) <;> (try simp at hq)) | refine appK2_if (by omega) ?_ | refine pureV_if (by omega) ?_) <;> simp -implicitDefEqProofs [*, hk])
theorem law22_Handles_2 (x : Node) (m : Msg) (hs : x.small) (hl : m.ids.length ≤ cap) (h : doB x m = true) (hk : m.kind = 2) : Den PP 6 [nodeD x, msgD m] [] (.bool true) [] := by
  have g0 := law_CopyNode x hs
  have c0 := law_CopyMsg m hl
  have n0 := law_SameNode x x hs
  have q0 := law_SameMsg m m hl
  obtain ⟨h1, h2, h3⟩ := doB_parts h
  obtain ⟨p1, p2, p3, p4, p5⟩ := nodeUp_parts h1
  obtain ⟨l1, l2, l3, l4⟩ := nodeUp_small h1
  have a1 := handle_Do_2m x m hs hl h hk
  have a2 := ref_Handle_2 x m hs hl h hk
  generalize hw : tellOf x m = w at *
  have hwi : w.ids = [] := by rw [← hw]; rfl
  clear hw
  have hwb : w.bare = w := by cases w; simp only at hwi; subst hwi; rfl
  have m2 := law_SameMsgs [w] [w] (by unfold cap16; simp) (by intro y hy; rw [List.mem_singleton.1 hy, hwi]; simp)
  have z1 := law_SpoilMsgs [w] (by unfold cap16; simp)
  have n1 := law_SameNode x x hs
  have s1 := law_SpoilNode x (by unfold cap16; omega) (by unfold cap16; omega) (by unfold cap16; omega) (by unfold cap16; omega)
  clear hwi
  clear h h1 h2 h3 p1 p2 p3 p4 p5 l1 l2 l3 l4
  simp only [nodeD, Node.cells, viewD, View.cells, peersD, intsD, itemsD, toldsD, Item.row, noteD, noteB, copyD, nodeB, msgsD, msgD, Msg.row, zeroNode, List.map_nil, List.map_cons, List.length_nil, List.length_cons, List.nil_append, List.cons_append, hk] at g0 c0 n0 q0 a1 a2 n1 s1 z1 ⊢
  simp only [msgsD, List.map_nil, List.map_cons, List.length_nil, List.length_cons] at m2
  refine den_of [20] [47, 49] is_gimmallaw22_Handles ?_
  simp -implicitDefEqProofs [c_gimmallaw22_Handles, Msg.row, hk, hwb]
  repeat' ((first | refine callThen_of (by first | exact g0 | exact c0 | exact a1 | exact a2 | exact n1 | exact den_nrm (n1) | exact den_nrm (by simpa using n1) | exact m2 | exact den_nrm (m2) | exact den_nrm (by simpa using m2) | exact law_Num _) ?_ | with_reducible refine gOps_dec (fun _ => ?_) (fun _ => ?_) | with_reducible refine gOps_ndec (fun _ => ?_) (fun _ => ?_) | (with_reducible refine gOps_and (fun hq => ?_) (fun hq => ?_) <;> (try simp at hq)) | (with_reducible refine gOps_or (fun hq => ?_) (fun hq => ?_) <;> (try simp at hq)) | (with_reducible refine gOps_not (fun hq => ?_) (fun hq => ?_) <;> (try simp at hq)) | (with_reducible refine gOps_split (fun hq => ?_) (fun hq => ?_) <;> (try simp at hq)) | with_reducible refine condC_dec (fun _ => ?_) (fun _ => ?_) | with_reducible refine condC_ndec (fun _ => ?_) (fun _ => ?_) | (with_reducible refine condC_and (fun hq => ?_) (fun hq => ?_) <;> (try simp at hq)) | (with_reducible refine condC_or (fun hq => ?_) (fun hq => ?_) <;> (try simp at hq)) | (with_reducible refine condC_not (fun hq => ?_) (fun hq => ?_) <;> (try simp at hq)) | (with_reducible refine condC_split (fun hq => ?_) (fun hq => ?_) <;> (try simp at hq)) | refine appK2_if (by omega) ?_ | refine pureV_if (by omega) ?_) <;> simp -implicitDefEqProofs [*, downTo, hk, hwb])
  refine callThen_nil rfl m2 (by have := nrmLL_mrow0 [w]; simpa [hwb] using this) ?_
  simp -implicitDefEqProofs
  repeat' ((first | refine callThen_of (by first | exact law_Num _) ?_ | with_reducible refine gOps_dec (fun _ => ?_) (fun _ => ?_) | with_reducible refine gOps_ndec (fun _ => ?_) (fun _ => ?_) | (with_reducible refine gOps_and (fun hq => ?_) (fun hq => ?_) <;> (try simp at hq)) | (with_reducible refine gOps_or (fun hq => ?_) (fun hq => ?_) <;> (try simp at hq)) | (with_reducible refine gOps_not (fun hq => ?_) (fun hq => ?_) <;> (try simp at hq)) | (with_reducible refine gOps_split (fun hq => ?_) (fun hq => ?_) <;> (try simp at hq)) | with_reducible refine condC_dec (fun _ => ?_) (fun _ => ?_) | with_reducible refine condC_ndec (fun _ => ?_) (fun _ => ?_) | (with_reducible refine condC_and (fun hq => ?_) (fun hq => ?_) <;> (try simp at hq)) | (with_reducible refine condC_or (fun hq => ?_) (fun hq => ?_) <;> (try simp at hq)) | (with_reducible refine condC_not (fun hq => ?_) (fun hq => ?_) <;> (try simp at hq)) | (with_reducible refine condC_split (fun hq => ?_) (fun hq => ?_) <;> (try simp at hq)) | refine appK2_if (by omega) ?_ | refine pureV_if (by omega) ?_) <;> simp -implicitDefEqProofs [*, downTo])
  refine lendThen_frame [4, 5, 6, 7] rfl (by decide) (by simp) s1 (by simp) (by simp [lentBs]) ?_
  simp -implicitDefEqProofs [framed]
  refine lendThen_frame [8] rfl (by decide) (by simp) z1 (by simp) (by simp [lentBs]) ?_
  simp -implicitDefEqProofs [framed]
  repeat' ((first | refine callThen_of (by first | exact n0 | exact q0 | exact law22_awake) ?_ | with_reducible refine gOps_dec (fun _ => ?_) (fun _ => ?_) | with_reducible refine gOps_ndec (fun _ => ?_) (fun _ => ?_) | (with_reducible refine gOps_and (fun hq => ?_) (fun hq => ?_) <;> (try simp at hq)) | (with_reducible refine gOps_or (fun hq => ?_) (fun hq => ?_) <;> (try simp at hq)) | (with_reducible refine gOps_not (fun hq => ?_) (fun hq => ?_) <;> (try simp at hq)) | (with_reducible refine gOps_split (fun hq => ?_) (fun hq => ?_) <;> (try simp at hq)) | with_reducible refine condC_dec (fun _ => ?_) (fun _ => ?_) | with_reducible refine condC_ndec (fun _ => ?_) (fun _ => ?_) | (with_reducible refine condC_and (fun hq => ?_) (fun hq => ?_) <;> (try simp at hq)) | (with_reducible refine condC_or (fun hq => ?_) (fun hq => ?_) <;> (try simp at hq)) | (with_reducible refine condC_not (fun hq => ?_) (fun hq => ?_) <;> (try simp at hq)) | (with_reducible refine condC_split (fun hq => ?_) (fun hq => ?_) <;> (try simp at hq)) | refine appK2_if (by omega) ?_ | refine pureV_if (by omega) ?_) <;> simp -implicitDefEqProofs [*, hk])
theorem law22_Handles_3 (x : Node) (m : Msg) (hs : x.small) (hl : m.ids.length ≤ cap) (h : doB x m = true) (hk : m.kind = 3) : Den PP 6 [nodeD x, msgD m] [] (.bool true) [] := by
  have g0 := law_CopyNode x hs
  have c0 := law_CopyMsg m hl
  have n0 := law_SameNode x x hs
  have q0 := law_SameMsg m m hl
  obtain ⟨h1, h2, h3⟩ := doB_parts h
  obtain ⟨p1, p2, p3, p4, p5⟩ := nodeUp_parts h1
  obtain ⟨l1, l2, l3, l4⟩ := nodeUp_small h1
  have a1 := handle_Do_3 x m hs hl h hk
  have a2 := ref_Handle_3 x m hs hl h hk
  obtain ⟨d1, d2⟩ := logOf_lenG (t := mT m) l4
  generalize logOf x (mT m) = ys at *
  generalize logPre x (mT m) = pre at *
  have n1 := law_SameNode { x with log := ys } { x with log := ys } (small_logG hs d1)
  have s1 := law_SpoilNode_at x pre ys (by unfold cap16; omega) (by unfold cap16; omega) (by unfold cap16; omega) (by unfold cap16; omega) (by unfold cap16; omega)
  clear d1 d2
  have z1 := law_SpoilMsgs_nil
  clear h h1 h2 h3 p1 p2 p3 p4 p5 l1 l2 l3 l4
  have m2 := law_SameMsgs [] [] (by unfold cap16; simp) (by simp)
  simp only [nodeD, Node.cells, viewD, View.cells, peersD, intsD, itemsD, toldsD, Item.row, noteD, noteB, copyD, nodeB, msgsD, msgD, Msg.row, zeroNode, List.map_nil, List.map_cons, List.length_nil, List.length_cons, List.nil_append, List.cons_append, hk] at g0 c0 n0 q0 a1 a2 n1 s1 z1 ⊢
  simp only [msgsD, List.map_nil, List.map_cons, List.length_nil, List.length_cons] at m2
  refine den_of [20] [47, 49] is_gimmallaw22_Handles ?_
  simp -implicitDefEqProofs [c_gimmallaw22_Handles, Msg.row, hk]
  repeat' ((first | refine callThen_of (by first | exact g0 | exact c0 | exact a1 | exact a2 | exact n1 | exact den_nrm (n1) | exact den_nrm (by simpa using n1) | exact m2 | exact den_nrm (m2) | exact den_nrm (by simpa using m2) | exact law_Num _) ?_ | with_reducible refine gOps_dec (fun _ => ?_) (fun _ => ?_) | with_reducible refine gOps_ndec (fun _ => ?_) (fun _ => ?_) | (with_reducible refine gOps_and (fun hq => ?_) (fun hq => ?_) <;> (try simp at hq)) | (with_reducible refine gOps_or (fun hq => ?_) (fun hq => ?_) <;> (try simp at hq)) | (with_reducible refine gOps_not (fun hq => ?_) (fun hq => ?_) <;> (try simp at hq)) | (with_reducible refine gOps_split (fun hq => ?_) (fun hq => ?_) <;> (try simp at hq)) | with_reducible refine condC_dec (fun _ => ?_) (fun _ => ?_) | with_reducible refine condC_ndec (fun _ => ?_) (fun _ => ?_) | (with_reducible refine condC_and (fun hq => ?_) (fun hq => ?_) <;> (try simp at hq)) | (with_reducible refine condC_or (fun hq => ?_) (fun hq => ?_) <;> (try simp at hq)) | (with_reducible refine condC_not (fun hq => ?_) (fun hq => ?_) <;> (try simp at hq)) | (with_reducible refine condC_split (fun hq => ?_) (fun hq => ?_) <;> (try simp at hq)) | refine appK2_if (by omega) ?_ | refine pureV_if (by omega) ?_) <;> simp -implicitDefEqProofs [*, downTo, hk])
  refine lendThen_frame [4, 5, 6, 7] rfl (by decide) (by simp) s1 (by simp) (by simp [lentBs]) ?_
  simp -implicitDefEqProofs [framed]
  refine lendThen_frame [] rfl (by decide) (by simp) z1 (by simp) (by simp [lentBs]) ?_
  simp -implicitDefEqProofs [framed]
  repeat' ((first | refine callThen_of (by first | exact n0 | exact q0 | exact law22_awake) ?_ | with_reducible refine gOps_dec (fun _ => ?_) (fun _ => ?_) | with_reducible refine gOps_ndec (fun _ => ?_) (fun _ => ?_) | (with_reducible refine gOps_and (fun hq => ?_) (fun hq => ?_) <;> (try simp at hq)) | (with_reducible refine gOps_or (fun hq => ?_) (fun hq => ?_) <;> (try simp at hq)) | (with_reducible refine gOps_not (fun hq => ?_) (fun hq => ?_) <;> (try simp at hq)) | (with_reducible refine gOps_split (fun hq => ?_) (fun hq => ?_) <;> (try simp at hq)) | with_reducible refine condC_dec (fun _ => ?_) (fun _ => ?_) | with_reducible refine condC_ndec (fun _ => ?_) (fun _ => ?_) | (with_reducible refine condC_and (fun hq => ?_) (fun hq => ?_) <;> (try simp at hq)) | (with_reducible refine condC_or (fun hq => ?_) (fun hq => ?_) <;> (try simp at hq)) | (with_reducible refine condC_not (fun hq => ?_) (fun hq => ?_) <;> (try simp at hq)) | (with_reducible refine condC_split (fun hq => ?_) (fun hq => ?_) <;> (try simp at hq)) | refine appK2_if (by omega) ?_ | refine pureV_if (by omega) ?_) <;> simp -implicitDefEqProofs [*, hk])
theorem law22_Handles (x : Node) (m : Msg) (hs : x.small) (hl : m.ids.length ≤ cap) : Den PP 6 [nodeD x, msgD m] [] (.bool true) [] := by
  cases h : doB x m with
  | false => exact law22_Handles_no x m hs hl h
  | true =>
    rcases kind_cases (doB_parts h).2.1 with hk | hk | hk | hk
    · exact law22_Handles_0 x m hs hl h hk
    · exact law22_Handles_1 x m hs hl h hk
    · exact law22_Handles_2 x m hs hl h hk
    · exact law22_Handles_3 x m hs hl h hk
def Msg.tame (m : Msg) : Prop := m.ids.length * 8 ≤ 140737488351232 ∧ (∀ x ∈ m.ids, in64 x) ∧ in64 m.kind ∧ in64 m.from_ ∧ in64 m.to ∧ in64 m.key ∧ m.item.tame
theorem Msg.tame.ids {m : Msg} (h : m.tame) : m.ids.length ≤ cap := by
  have := h.1
  unfold cap
  omega
theorem tell_Msg {n : Nat} {cs : List D} (h : Tell TT (n + 4) 68 cs) : ∃ m : Msg, cs = m.row ∧ m.tame := by
  unfold Tell at h
  simp [Tell.TellFs] at h
  obtain ⟨a, r1, rfl, h1, b, r2, rfl, h2, c, r3, rfl, h3, d, r4, rfl, h4, e, r5, rfl, h5, f, g, rfl, h6, h7⟩ := h
  obtain ⟨k, rfl, hk⟩ := tell_int h1
  obtain ⟨u, rfl, hu⟩ := tell_int h2
  obtain ⟨v, rfl, hv⟩ := tell_int h3
  obtain ⟨is, rfl, h8, h9⟩ := tell_ints h4
  obtain ⟨w, rfl, hw⟩ := tell_int h5
  obtain ⟨i, rfl, hi⟩ := tell_Item h6
  obtain ⟨b, rfl⟩ := tell_bool h7
  exact ⟨⟨k, u, v, is, w, i, b⟩, rfl, h8, h9, hk, hu, hv, hw, hi⟩
theorem arg_Msg {n : Nat} {d : D} (h : TellArg TT (n + 4) 68 d) : ∃ m : Msg, d = msgD m ∧ m.tame := by
  simp [TellArg] at h
  obtain ⟨cs, rfl, h⟩ := h
  obtain ⟨v, rfl, hv⟩ := tell_Msg h
  exact ⟨v, rfl, hv⟩
end Go.AM
