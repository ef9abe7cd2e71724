/- What the proof of this claim stands on, part 8. -/
import Derived.Test.YtinbocdlolkcgaaAmZ7
/- AM: chapter 18's statements, more: what each comes to. -/
namespace Go.AM
set_option linter.unusedSimpArgs false
set_option linter.unusedVariables false
set_option maxRecDepth 8000
set_option maxHeartbeats 0
theorem shMsg_may {x : Node} (h : nodeUp x = true) (hp : x.view.peers ≠ []) {i : Item} (hi : i ∈ x.items) : msgMay (shMsg x i) = true := by
  obtain ⟨⟨q, hq, he⟩, hne⟩ := shTo_peer h hp i
  obtain ⟨_, h2, h3, _⟩ := nodeUp_parts h
  have h4 := ids_places h2
  have h5 := h4 x.view.id (by simp)
  have h6 := h4 _ (mem_ids hq)
  rw [he] at h6
  have h7 := storeMay_mem h3 i hi
  simp [msgMay, shMsg, h5, h6, h7, Ne.symm hne]
theorem law18_ShareOnce (x : Node) (hs : x.small) : Den PP 9 [nodeD x] [] (.bool true) [] := by
  have g1 := share_Of x hs
  have g4 := ref_NodeMay x hs
  have hlp := hs.1.1
  unfold cap16 at hlp
  refine den_of [] [] is_gimmallaw18_ShareOnce ?_
  cases hu : nodeUp x with
  | false =>
    have e : shareOf x = ([], 1800) := by simp [shareOf, hu]
    rw [e] at g1
    simp [nodeD, Node.cells, peersD, intsD, itemsD, toldsD] at g1
    simp -implicitDefEqProofs [c_gimmallaw18_ShareOnce, nodeD, Node.cells, peersD, intsD, itemsD, toldsD]
    repeat' (first | (refine callThen_of (by first | exact law18_awake | exact g1 | exact law_Num _) ?_; simp -implicitDefEqProofs [*, downTo]) | (with_reducible refine gOps_dec (fun _ => ?_) (fun _ => ?_) <;> simp -implicitDefEqProofs [*, downTo]) | (with_reducible refine gOps_ndec (fun _ => ?_) (fun _ => ?_) <;> simp -implicitDefEqProofs [*, downTo]) | (with_reducible refine gOps_and (fun hq => ?_) (fun hq => ?_) <;> (try simp at hq) <;> simp -implicitDefEqProofs [*, downTo]) | (with_reducible refine gOps_or (fun hq => ?_) (fun hq => ?_) <;> (try simp at hq) <;> simp -implicitDefEqProofs [*, downTo]) | (with_reducible refine gOps_not (fun hq => ?_) (fun hq => ?_) <;> (try simp at hq) <;> simp -implicitDefEqProofs [*, downTo]) | (with_reducible refine gOps_split (fun hq => ?_) (fun hq => ?_) <;> (try simp at hq) <;> simp -implicitDefEqProofs [*, downTo]) | (with_reducible refine condC_dec (fun _ => ?_) (fun _ => ?_) <;> simp -implicitDefEqProofs [*, downTo]) | (with_reducible refine condC_ndec (fun _ => ?_) (fun _ => ?_) <;> simp -implicitDefEqProofs [*, downTo]) | (with_reducible refine condC_and (fun hq => ?_) (fun hq => ?_) <;> (try simp at hq) <;> simp -implicitDefEqProofs [*, downTo]) | (with_reducible refine condC_or (fun hq => ?_) (fun hq => ?_) <;> (try simp at hq) <;> simp -implicitDefEqProofs [*, downTo]) | (with_reducible refine condC_not (fun hq => ?_) (fun hq => ?_) <;> (try simp at hq) <;> simp -implicitDefEqProofs [*, downTo]) | (with_reducible refine condC_split (fun hq => ?_) (fun hq => ?_) <;> (try simp at hq) <;> simp -implicitDefEqProofs [*, downTo]) | (refine appK2_if (by omega) ?_; simp -implicitDefEqProofs [*, downTo]) | (refine pureV_if (by omega) ?_; simp -implicitDefEqProofs [*, downTo]))
  | true =>
    rw [(nodeUp_parts hu).2.2.2.2] at g4
    cases hp : x.view.peers with
    | nil =>
      rw [share_alone hu hp] at g1
      simp [nodeD, Node.cells, peersD, intsD, itemsD, toldsD, hp] at g1
      simp -implicitDefEqProofs [c_gimmallaw18_ShareOnce, nodeD, Node.cells, peersD, intsD, itemsD, toldsD, hp]
      repeat' (first | (refine callThen_of (by first | exact law18_awake | exact g1 | exact law_Num _) ?_; simp -implicitDefEqProofs [*, downTo]) | (with_reducible refine gOps_dec (fun _ => ?_) (fun _ => ?_) <;> simp -implicitDefEqProofs [*, downTo]) | (with_reducible refine gOps_ndec (fun _ => ?_) (fun _ => ?_) <;> simp -implicitDefEqProofs [*, downTo]) | (with_reducible refine gOps_and (fun hq => ?_) (fun hq => ?_) <;> (try simp at hq) <;> simp -implicitDefEqProofs [*, downTo]) | (with_reducible refine gOps_or (fun hq => ?_) (fun hq => ?_) <;> (try simp at hq) <;> simp -implicitDefEqProofs [*, downTo]) | (with_reducible refine gOps_not (fun hq => ?_) (fun hq => ?_) <;> (try simp at hq) <;> simp -implicitDefEqProofs [*, downTo]) | (with_reducible refine gOps_split (fun hq => ?_) (fun hq => ?_) <;> (try simp at hq) <;> simp -implicitDefEqProofs [*, downTo]) | (with_reducible refine condC_dec (fun _ => ?_) (fun _ => ?_) <;> simp -implicitDefEqProofs [*, downTo]) | (with_reducible refine condC_ndec (fun _ => ?_) (fun _ => ?_) <;> simp -implicitDefEqProofs [*, downTo]) | (with_reducible refine condC_and (fun hq => ?_) (fun hq => ?_) <;> (try simp at hq) <;> simp -implicitDefEqProofs [*, downTo]) | (with_reducible refine condC_or (fun hq => ?_) (fun hq => ?_) <;> (try simp at hq) <;> simp -implicitDefEqProofs [*, downTo]) | (with_reducible refine condC_not (fun hq => ?_) (fun hq => ?_) <;> (try simp at hq) <;> simp -implicitDefEqProofs [*, downTo]) | (with_reducible refine condC_split (fun hq => ?_) (fun hq => ?_) <;> (try simp at hq) <;> simp -implicitDefEqProofs [*, downTo]) | (refine appK2_if (by omega) ?_; simp -implicitDefEqProofs [*, downTo]) | (refine pureV_if (by omega) ?_; simp -implicitDefEqProofs [*, downTo]))
    | cons p0 ps0 =>
      have hne : x.view.peers ≠ [] := by simp [hp]
      have hto := fun i => (shTo_peer hu hne i).1
      have hmay := fun i hi => @shMsg_may x hu hne i hi
      rw [share_all hu hne] at g1
      have hil : x.items.length ≤ 16 := by
        have := (nodeUp_parts hu).2.2.1
        simp only [storeMay, Bool.and_eq_true, decide_eq_true_eq] at this
        exact this.2
      have hpl : (x.view.peers.length : Int) ≠ 0 := by simp [hp]
      clear hp
      simp only [nodeD, Node.cells, peersD, intsD, itemsD, toldsD, List.length_map] at g1 g4
      simp -implicitDefEqProofs [c_gimmallaw18_ShareOnce, nodeD, Node.cells, peersD, intsD, itemsD, toldsD]
      repeat' (first | (refine callThen_of (by first | exact law18_awake | exact g1 | exact law_Num _) ?_; simp -implicitDefEqProofs [*, downTo, hpl]) | (with_reducible refine gOps_dec (fun _ => ?_) (fun _ => ?_) <;> simp -implicitDefEqProofs [*, downTo, hpl]) | (with_reducible refine gOps_ndec (fun _ => ?_) (fun _ => ?_) <;> simp -implicitDefEqProofs [*, downTo, hpl]) | (with_reducible refine gOps_and (fun hq => ?_) (fun hq => ?_) <;> (try simp at hq) <;> simp -implicitDefEqProofs [*, downTo, hpl]) | (with_reducible refine gOps_or (fun hq => ?_) (fun hq => ?_) <;> (try simp at hq) <;> simp -implicitDefEqProofs [*, downTo, hpl]) | (with_reducible refine gOps_not (fun hq => ?_) (fun hq => ?_) <;> (try simp at hq) <;> simp -implicitDefEqProofs [*, downTo, hpl]) | (with_reducible refine gOps_split (fun hq => ?_) (fun hq => ?_) <;> (try simp at hq) <;> simp -implicitDefEqProofs [*, downTo, hpl]) | (with_reducible refine condC_dec (fun _ => ?_) (fun _ => ?_) <;> simp -implicitDefEqProofs [*, downTo, hpl]) | (with_reducible refine condC_ndec (fun _ => ?_) (fun _ => ?_) <;> simp -implicitDefEqProofs [*, downTo, hpl]) | (with_reducible refine condC_and (fun hq => ?_) (fun hq => ?_) <;> (try simp at hq) <;> simp -implicitDefEqProofs [*, downTo, hpl]) | (with_reducible refine condC_or (fun hq => ?_) (fun hq => ?_) <;> (try simp at hq) <;> simp -implicitDefEqProofs [*, downTo, hpl]) | (with_reducible refine condC_not (fun hq => ?_) (fun hq => ?_) <;> (try simp at hq) <;> simp -implicitDefEqProofs [*, downTo, hpl]) | (with_reducible refine condC_split (fun hq => ?_) (fun hq => ?_) <;> (try simp at hq) <;> simp -implicitDefEqProofs [*, downTo, hpl]) | (refine appK2_if (by omega) ?_; simp -implicitDefEqProofs [*, downTo, hpl]) | (refine pureV_if (by omega) ?_; simp -implicitDefEqProofs [*, downTo, hpl]))
      refine list_rule x.items (fun i rest => fun ⟨fr, bs⟩ => bs = [⟨[x.cells], 6, .box⟩] ∧ fr 1 = .ptr 0 0 0 ∧ fr 3 = .sl ((x.items.map (shMsg x)).map Msg.row0) x.items.length ∧ fr 5 = .int .i64 i)
        (fun ⟨fr, bs⟩ => bs = [⟨[x.cells], 6, .box⟩] ∧ fr 1 = .ptr 0 0 0) (fun ⟨fr, bs⟩ => False) c_gimmallaw18_ShareOnce_L0.eq_1 ?_ ?_ ?_ ?_ ?_
      · exact ⟨rfl, rfl, by simp, rfl⟩
      · rintro i ⟨fr, bs⟩ hi ⟨rfl, h1, h3, h5⟩
        simp -implicitDefEqProofs [h1, h3, h5, hi]
      · rintro i a rest ⟨fr, bs⟩ hlt hget hg hd hd2 ⟨rfl, h1, h3, h5⟩
        have hlt' : (i : Int) < x.items.length := by omega
        have hw := wrap_next (n := i) (by omega)
        have ham := List.mem_of_getElem? hget
        have hma := hmay a ham
        obtain ⟨q, hq, hqe⟩ := hto a
        have hA : (x.view.peers.any fun q => decide (q.id = shTo x a)) = true := List.any_eq_true.2 ⟨q, hq, by simp [hqe]⟩
        have c1 := ref_MsgMay (shMsg x a) (by simp [shMsg])
        rw [hma] at c1
        simp [msgD, Msg.row, shMsg, intsD] at c1
        clear hto hmay
        simp -implicitDefEqProofs [h1, h3, h5, hlt, hlt', hget, hg]
        refine list_rule x.view.peers (fun j rest2 => fun ⟨fr, bs⟩ => ∃ b, bs = [⟨[x.cells], 6, .box⟩] ∧ fr 1 = .ptr 0 0 0 ∧ fr 3 = .sl ((x.items.map (shMsg x)).map Msg.row0) x.items.length ∧ fr 5 = .int .i64 i ∧ fr 6 = .bool b ∧ fr 7 = .int .i64 j ∧ (b || rest2.any fun q => decide (q.id = shTo x a)) = true)
          (fun ⟨fr, bs⟩ => bs = [⟨[x.cells], 6, .box⟩] ∧ fr 1 = .ptr 0 0 0 ∧ fr 3 = .sl ((x.items.map (shMsg x)).map Msg.row0) x.items.length ∧ fr 5 = .int .i64 i ∧ fr 6 = .bool true) (fun ⟨fr, bs⟩ => False) c_gimmallaw18_ShareOnce_L1.eq_1 ?_ ?_ ?_ ?_ ?_
        · exact ⟨false, rfl, by simp [h1], by simp [h3], by simp [h5], rfl, rfl, hA⟩
        · rintro j ⟨fr, bs⟩ hj ⟨b, rfl, h1, h3, h5, h6, h7, he⟩
          simp at he
          simp -implicitDefEqProofs [h1, h3, h5, h6, h7, hj, Node.cells, peersD, he]
        · rintro j p rest2 ⟨fr, bs⟩ hjlt hjget hjg hjd hjd2 ⟨b, rfl, h1, h3, h5, h6, h7, he⟩
          have hjlt' : (j : Int) < x.view.peers.length := by omega
          have hjw := wrap_next (n := j) (by omega)
          have hto2 : (shMsg x a).to = shTo x a := rfl
          simp -implicitDefEqProofs [h1, h3, h5, h6, h7, hjlt, hjlt', hlt, hlt', hget, hg, hjget, hjg, Node.cells, peersD, intsD, itemsD, toldsD, Peer.row, Msg.row0]
          repeat' (first | (with_reducible refine gOps_dec (fun _ => ?_) (fun _ => ?_) <;> simp -implicitDefEqProofs [*, Node.cells, peersD, intsD, itemsD, toldsD, Peer.row, Msg.row0, hjw, hto2]) | (with_reducible refine gOps_ndec (fun _ => ?_) (fun _ => ?_) <;> simp -implicitDefEqProofs [*, Node.cells, peersD, intsD, itemsD, toldsD, Peer.row, Msg.row0, hjw, hto2]) | (with_reducible refine gOps_and (fun hq => ?_) (fun hq => ?_) <;> (try simp at hq) <;> simp -implicitDefEqProofs [*, Node.cells, peersD, intsD, itemsD, toldsD, Peer.row, Msg.row0, hjw, hto2]) | (with_reducible refine gOps_or (fun hq => ?_) (fun hq => ?_) <;> (try simp at hq) <;> simp -implicitDefEqProofs [*, Node.cells, peersD, intsD, itemsD, toldsD, Peer.row, Msg.row0, hjw, hto2]) | (with_reducible refine gOps_not (fun hq => ?_) (fun hq => ?_) <;> (try simp at hq) <;> simp -implicitDefEqProofs [*, Node.cells, peersD, intsD, itemsD, toldsD, Peer.row, Msg.row0, hjw, hto2]) | (with_reducible refine gOps_split (fun hq => ?_) (fun hq => ?_) <;> (try simp at hq) <;> simp -implicitDefEqProofs [*, Node.cells, peersD, intsD, itemsD, toldsD, Peer.row, Msg.row0, hjw, hto2]) | (with_reducible refine condC_dec (fun _ => ?_) (fun _ => ?_) <;> simp -implicitDefEqProofs [*, Node.cells, peersD, intsD, itemsD, toldsD, Peer.row, Msg.row0, hjw, hto2]) | (with_reducible refine condC_ndec (fun _ => ?_) (fun _ => ?_) <;> simp -implicitDefEqProofs [*, Node.cells, peersD, intsD, itemsD, toldsD, Peer.row, Msg.row0, hjw, hto2]) | (with_reducible refine condC_and (fun hq => ?_) (fun hq => ?_) <;> (try simp at hq) <;> simp -implicitDefEqProofs [*, Node.cells, peersD, intsD, itemsD, toldsD, Peer.row, Msg.row0, hjw, hto2]) | (with_reducible refine condC_or (fun hq => ?_) (fun hq => ?_) <;> (try simp at hq) <;> simp -implicitDefEqProofs [*, Node.cells, peersD, intsD, itemsD, toldsD, Peer.row, Msg.row0, hjw, hto2]) | (with_reducible refine condC_not (fun hq => ?_) (fun hq => ?_) <;> (try simp at hq) <;> simp -implicitDefEqProofs [*, Node.cells, peersD, intsD, itemsD, toldsD, Peer.row, Msg.row0, hjw, hto2]) | (with_reducible refine condC_split (fun hq => ?_) (fun hq => ?_) <;> (try simp at hq) <;> simp -implicitDefEqProofs [*, Node.cells, peersD, intsD, itemsD, toldsD, Peer.row, Msg.row0, hjw, hto2]) | (refine appK2_if (by omega) ?_; simp -implicitDefEqProofs [*, Node.cells, peersD, intsD, itemsD, toldsD, Peer.row, Msg.row0, hjw, hto2]) | (refine pureV_if (by omega) ?_; simp -implicitDefEqProofs [*, Node.cells, peersD, intsD, itemsD, toldsD, Peer.row, Msg.row0, hjw, hto2]))
          all_goals grind
        · rintro ⟨fr, bs⟩ ⟨rfl, h1, h3, h5, h6⟩
          simp -implicitDefEqProofs [h1, h3, h5, h6, hlt, hlt', hget, hg, Node.cells, peersD, intsD, itemsD, toldsD, Item.row, Msg.row0, hw, EQS, shMsg]
          repeat' (first | (refine callThen_of (by first | exact c1 | exact den_nrm (c1) | exact den_nrm (by simpa using c1)) ?_; simp -implicitDefEqProofs [*, hlt, hlt', hget, hg, Node.cells, peersD, intsD, itemsD, toldsD, Item.row, Msg.row0, hw, EQS, shMsg]) | (with_reducible refine gOps_dec (fun _ => ?_) (fun _ => ?_) <;> simp -implicitDefEqProofs [*, hlt, hlt', hget, hg, Node.cells, peersD, intsD, itemsD, toldsD, Item.row, Msg.row0, hw, EQS, shMsg]) | (with_reducible refine gOps_ndec (fun _ => ?_) (fun _ => ?_) <;> simp -implicitDefEqProofs [*, hlt, hlt', hget, hg, Node.cells, peersD, intsD, itemsD, toldsD, Item.row, Msg.row0, hw, EQS, shMsg]) | (with_reducible refine gOps_and (fun hq => ?_) (fun hq => ?_) <;> (try simp at hq) <;> simp -implicitDefEqProofs [*, hlt, hlt', hget, hg, Node.cells, peersD, intsD, itemsD, toldsD, Item.row, Msg.row0, hw, EQS, shMsg]) | (with_reducible refine gOps_or (fun hq => ?_) (fun hq => ?_) <;> (try simp at hq) <;> simp -implicitDefEqProofs [*, hlt, hlt', hget, hg, Node.cells, peersD, intsD, itemsD, toldsD, Item.row, Msg.row0, hw, EQS, shMsg]) | (with_reducible refine gOps_not (fun hq => ?_) (fun hq => ?_) <;> (try simp at hq) <;> simp -implicitDefEqProofs [*, hlt, hlt', hget, hg, Node.cells, peersD, intsD, itemsD, toldsD, Item.row, Msg.row0, hw, EQS, shMsg]) | (with_reducible refine gOps_split (fun hq => ?_) (fun hq => ?_) <;> (try simp at hq) <;> simp -implicitDefEqProofs [*, hlt, hlt', hget, hg, Node.cells, peersD, intsD, itemsD, toldsD, Item.row, Msg.row0, hw, EQS, shMsg]) | (with_reducible refine condC_dec (fun _ => ?_) (fun _ => ?_) <;> simp -implicitDefEqProofs [*, hlt, hlt', hget, hg, Node.cells, peersD, intsD, itemsD, toldsD, Item.row, Msg.row0, hw, EQS, shMsg]) | (with_reducible refine condC_ndec (fun _ => ?_) (fun _ => ?_) <;> simp -implicitDefEqProofs [*, hlt, hlt', hget, hg, Node.cells, peersD, intsD, itemsD, toldsD, Item.row, Msg.row0, hw, EQS, shMsg]) | (with_reducible refine condC_and (fun hq => ?_) (fun hq => ?_) <;> (try simp at hq) <;> simp -implicitDefEqProofs [*, hlt, hlt', hget, hg, Node.cells, peersD, intsD, itemsD, toldsD, Item.row, Msg.row0, hw, EQS, shMsg]) | (with_reducible refine condC_or (fun hq => ?_) (fun hq => ?_) <;> (try simp at hq) <;> simp -implicitDefEqProofs [*, hlt, hlt', hget, hg, Node.cells, peersD, intsD, itemsD, toldsD, Item.row, Msg.row0, hw, EQS, shMsg]) | (with_reducible refine condC_not (fun hq => ?_) (fun hq => ?_) <;> (try simp at hq) <;> simp -implicitDefEqProofs [*, hlt, hlt', hget, hg, Node.cells, peersD, intsD, itemsD, toldsD, Item.row, Msg.row0, hw, EQS, shMsg]) | (with_reducible refine condC_split (fun hq => ?_) (fun hq => ?_) <;> (try simp at hq) <;> simp -implicitDefEqProofs [*, hlt, hlt', hget, hg, Node.cells, peersD, intsD, itemsD, toldsD, Item.row, Msg.row0, hw, EQS, shMsg]) | (refine appK2_if (by omega) ?_; simp -implicitDefEqProofs [*, hlt, hlt', hget, hg, Node.cells, peersD, intsD, itemsD, toldsD, Item.row, Msg.row0, hw, EQS, shMsg]) | (refine pureV_if (by omega) ?_; simp -implicitDefEqProofs [*, hlt, hlt', hget, hg, Node.cells, peersD, intsD, itemsD, toldsD, Item.row, Msg.row0, hw, EQS, shMsg]))
        · rintro ⟨fr, bs⟩ h
          exact h.elim
      · rintro ⟨fr, bs⟩ ⟨rfl, h1⟩
        simp -implicitDefEqProofs [h1, Node.cells, peersD, intsD, itemsD, toldsD]
        refine callThen_of g4 ?_
        simp -implicitDefEqProofs
      · rintro ⟨fr, bs⟩ h
        exact h.elim
theorem bad_share (b : Node) (h : nodeUp b = false) (hs : b.small) : Den PP 33 [nodeD b] [] (.tup [.ref 0 0 0, .int .i64 1800]) [⟨[], 11, .mut⟩] := by
  have c1 := share_Of b hs
  rw [show shareOf b = ([], 1800) by simp [shareOf, h]] at c1
  simpa using c1
theorem law18_ShareForms (which x : Int) : Den PP 11 [.int .i64 which, .int .i64 x] [] (.bool true) [] := by
  have hd : 0 ≤ x % 1024 ∧ x % 1024 < 1024 := by omega
  have w1 : IntKind.wrap .i64 (1 + x % 1024) = 1 + x % 1024 := wrap_in (by omega) (by omega)
  have w2 : IntKind.wrap .i64 (64 + (1 + x % 1024)) = 64 + (1 + x % 1024) := wrap_in (by omega) (by omega)
  have w3 : IntKind.wrap .i64 (-(1 + x % 1024)) = -(1 + x % 1024) := wrap_in (by omega) (by omega)
  have b1 : (0 : Int) ≤ 64 + (1 + x % 1024) := by omega
  have b2 : (64 + (1 + x % 1024)) * 24 ≤ 140737488355328 := by omega
  have b3 : 64 + (1 + x % 1024) ≤ 9223372036854775807 := by omega
  have i1 := law18_it 9 0
  simp only [itI, Item.row] at i1
  have hw : which % 4 = 0 ∨ which % 4 = 1 ∨ which % 4 = 2 ∨ which % 4 = 3 := by omega
  refine den_of [14] [] is_gimmallaw18_ShareForms ?_
  rcases hw with hw | hw | hw | hw
  · have c1 := bad_share ⟨false, ⟨5, [], []⟩, [], []⟩ (by decide +kernel) (by unfold Node.small View.small cap16 cap; simp [node100]; try omega)
    simp [node100, nodeD, Node.cells, peersD, intsD, itemsD, toldsD, Peer.row, irow, Item.row, Told.row] at c1
    simp -implicitDefEqProofs [c_gimmallaw18_ShareForms, hw, w1, w2, w3]
    repeat' (first | (refine callThen_of (by first | exact law18_awake | exact law18_node100 | exact c1 | exact den_nrm (c1) | exact den_nrm (by simpa using c1) | exact law_Num _ | exact i1) ?_; simp -implicitDefEqProofs [*, node100, Peer.row, irow, Item.row, downTo, hw, w1, w2, w3, b1, b2, b3, reach]) | (with_reducible refine gOps_dec (fun _ => ?_) (fun _ => ?_) <;> simp -implicitDefEqProofs [*, node100, Peer.row, irow, Item.row, downTo, hw, w1, w2, w3, b1, b2, b3, reach]) | (with_reducible refine gOps_ndec (fun _ => ?_) (fun _ => ?_) <;> simp -implicitDefEqProofs [*, node100, Peer.row, irow, Item.row, downTo, hw, w1, w2, w3, b1, b2, b3, reach]) | (with_reducible refine gOps_and (fun hq => ?_) (fun hq => ?_) <;> (try simp at hq) <;> simp -implicitDefEqProofs [*, node100, Peer.row, irow, Item.row, downTo, hw, w1, w2, w3, b1, b2, b3, reach]) | (with_reducible refine gOps_or (fun hq => ?_) (fun hq => ?_) <;> (try simp at hq) <;> simp -implicitDefEqProofs [*, node100, Peer.row, irow, Item.row, downTo, hw, w1, w2, w3, b1, b2, b3, reach]) | (with_reducible refine gOps_not (fun hq => ?_) (fun hq => ?_) <;> (try simp at hq) <;> simp -implicitDefEqProofs [*, node100, Peer.row, irow, Item.row, downTo, hw, w1, w2, w3, b1, b2, b3, reach]) | (with_reducible refine gOps_split (fun hq => ?_) (fun hq => ?_) <;> (try simp at hq) <;> simp -implicitDefEqProofs [*, node100, Peer.row, irow, Item.row, downTo, hw, w1, w2, w3, b1, b2, b3, reach]) | (with_reducible refine condC_dec (fun _ => ?_) (fun _ => ?_) <;> simp -implicitDefEqProofs [*, node100, Peer.row, irow, Item.row, downTo, hw, w1, w2, w3, b1, b2, b3, reach]) | (with_reducible refine condC_ndec (fun _ => ?_) (fun _ => ?_) <;> simp -implicitDefEqProofs [*, node100, Peer.row, irow, Item.row, downTo, hw, w1, w2, w3, b1, b2, b3, reach]) | (with_reducible refine condC_and (fun hq => ?_) (fun hq => ?_) <;> (try simp at hq) <;> simp -implicitDefEqProofs [*, node100, Peer.row, irow, Item.row, downTo, hw, w1, w2, w3, b1, b2, b3, reach]) | (with_reducible refine condC_or (fun hq => ?_) (fun hq => ?_) <;> (try simp at hq) <;> simp -implicitDefEqProofs [*, node100, Peer.row, irow, Item.row, downTo, hw, w1, w2, w3, b1, b2, b3, reach]) | (with_reducible refine condC_not (fun hq => ?_) (fun hq => ?_) <;> (try simp at hq) <;> simp -implicitDefEqProofs [*, node100, Peer.row, irow, Item.row, downTo, hw, w1, w2, w3, b1, b2, b3, reach]) | (with_reducible refine condC_split (fun hq => ?_) (fun hq => ?_) <;> (try simp at hq) <;> simp -implicitDefEqProofs [*, node100, Peer.row, irow, Item.row, downTo, hw, w1, w2, w3, b1, b2, b3, reach]) | (refine appK2_if (by omega) ?_; simp -implicitDefEqProofs [*, node100, Peer.row, irow, Item.row, downTo, hw, w1, w2, w3, b1, b2, b3, reach]) | (refine pureV_if (by omega) ?_; simp -implicitDefEqProofs [*, node100, Peer.row, irow, Item.row, downTo, hw, w1, w2, w3, b1, b2, b3, reach]))
    all_goals trace_state
  · have c1 := bad_share { node100 with items := [⟨9, 0, 1, 0, false⟩] } (by decide +kernel) (by unfold Node.small View.small cap16 cap; simp [node100]; try omega)
    simp [node100, nodeD, Node.cells, peersD, intsD, itemsD, toldsD, Peer.row, irow, Item.row, Told.row] at c1
    simp -implicitDefEqProofs [c_gimmallaw18_ShareForms, hw, w1, w2, w3]
    repeat' (first | (refine callThen_of (by first | exact law18_awake | exact law18_node100 | exact c1 | exact den_nrm (c1) | exact den_nrm (by simpa using c1) | exact law_Num _ | exact i1) ?_; simp -implicitDefEqProofs [*, node100, Peer.row, irow, Item.row, downTo, hw, w1, w2, w3, b1, b2, b3, reach]) | (with_reducible refine gOps_dec (fun _ => ?_) (fun _ => ?_) <;> simp -implicitDefEqProofs [*, node100, Peer.row, irow, Item.row, downTo, hw, w1, w2, w3, b1, b2, b3, reach]) | (with_reducible refine gOps_ndec (fun _ => ?_) (fun _ => ?_) <;> simp -implicitDefEqProofs [*, node100, Peer.row, irow, Item.row, downTo, hw, w1, w2, w3, b1, b2, b3, reach]) | (with_reducible refine gOps_and (fun hq => ?_) (fun hq => ?_) <;> (try simp at hq) <;> simp -implicitDefEqProofs [*, node100, Peer.row, irow, Item.row, downTo, hw, w1, w2, w3, b1, b2, b3, reach]) | (with_reducible refine gOps_or (fun hq => ?_) (fun hq => ?_) <;> (try simp at hq) <;> simp -implicitDefEqProofs [*, node100, Peer.row, irow, Item.row, downTo, hw, w1, w2, w3, b1, b2, b3, reach]) | (with_reducible refine gOps_not (fun hq => ?_) (fun hq => ?_) <;> (try simp at hq) <;> simp -implicitDefEqProofs [*, node100, Peer.row, irow, Item.row, downTo, hw, w1, w2, w3, b1, b2, b3, reach]) | (with_reducible refine gOps_split (fun hq => ?_) (fun hq => ?_) <;> (try simp at hq) <;> simp -implicitDefEqProofs [*, node100, Peer.row, irow, Item.row, downTo, hw, w1, w2, w3, b1, b2, b3, reach]) | (with_reducible refine condC_dec (fun _ => ?_) (fun _ => ?_) <;> simp -implicitDefEqProofs [*, node100, Peer.row, irow, Item.row, downTo, hw, w1, w2, w3, b1, b2, b3, reach]) | (with_reducible refine condC_ndec (fun _ => ?_) (fun _ => ?_) <;> simp -implicitDefEqProofs [*, node100, Peer.row, irow, Item.row, downTo, hw, w1, w2, w3, b1, b2, b3, reach]) | (with_reducible refine condC_and (fun hq => ?_) (fun hq => ?_) <;> (try simp at hq) <;> simp -implicitDefEqProofs [*, node100, Peer.row, irow, Item.row, downTo, hw, w1, w2, w3, b1, b2, b3, reach]) | (with_reducible refine condC_or (fun hq => ?_) (fun hq => ?_) <;> (try simp at hq) <;> simp -implicitDefEqProofs [*, node100, Peer.row, irow, Item.row, downTo, hw, w1, w2, w3, b1, b2, b3, reach]) | (with_reducible refine condC_not (fun hq => ?_) (fun hq => ?_) <;> (try simp at hq) <;> simp -implicitDefEqProofs [*, node100, Peer.row, irow, Item.row, downTo, hw, w1, w2, w3, b1, b2, b3, reach]) | (with_reducible refine condC_split (fun hq => ?_) (fun hq => ?_) <;> (try simp at hq) <;> simp -implicitDefEqProofs [*, node100, Peer.row, irow, Item.row, downTo, hw, w1, w2, w3, b1, b2, b3, reach]) | (refine appK2_if (by omega) ?_; simp -implicitDefEqProofs [*, node100, Peer.row, irow, Item.row, downTo, hw, w1, w2, w3, b1, b2, b3, reach]) | (refine pureV_if (by omega) ?_; simp -implicitDefEqProofs [*, node100, Peer.row, irow, Item.row, downTo, hw, w1, w2, w3, b1, b2, b3, reach]))
    all_goals trace_state
  · have c1 := bad_share { node100 with view := { node100.view with id := -(1 + x % 1024) } } (by simp [nodeUp, nodeMay, viewMay, peersMay, place]; omega) (by unfold Node.small View.small cap16 cap; simp [node100]; try omega)
    simp [node100, nodeD, Node.cells, peersD, intsD, itemsD, toldsD, Peer.row, irow, Item.row, Told.row] at c1
    simp -implicitDefEqProofs [c_gimmallaw18_ShareForms, hw, w1, w2, w3]
    repeat' (first | (refine callThen_of (by first | exact law18_awake | exact law18_node100 | exact c1 | exact den_nrm (c1) | exact den_nrm (by simpa using c1) | exact law_Num _ | exact i1) ?_; simp -implicitDefEqProofs [*, node100, Peer.row, irow, Item.row, downTo, hw, w1, w2, w3, b1, b2, b3, reach]) | (with_reducible refine gOps_dec (fun _ => ?_) (fun _ => ?_) <;> simp -implicitDefEqProofs [*, node100, Peer.row, irow, Item.row, downTo, hw, w1, w2, w3, b1, b2, b3, reach]) | (with_reducible refine gOps_ndec (fun _ => ?_) (fun _ => ?_) <;> simp -implicitDefEqProofs [*, node100, Peer.row, irow, Item.row, downTo, hw, w1, w2, w3, b1, b2, b3, reach]) | (with_reducible refine gOps_and (fun hq => ?_) (fun hq => ?_) <;> (try simp at hq) <;> simp -implicitDefEqProofs [*, node100, Peer.row, irow, Item.row, downTo, hw, w1, w2, w3, b1, b2, b3, reach]) | (with_reducible refine gOps_or (fun hq => ?_) (fun hq => ?_) <;> (try simp at hq) <;> simp -implicitDefEqProofs [*, node100, Peer.row, irow, Item.row, downTo, hw, w1, w2, w3, b1, b2, b3, reach]) | (with_reducible refine gOps_not (fun hq => ?_) (fun hq => ?_) <;> (try simp at hq) <;> simp -implicitDefEqProofs [*, node100, Peer.row, irow, Item.row, downTo, hw, w1, w2, w3, b1, b2, b3, reach]) | (with_reducible refine gOps_split (fun hq => ?_) (fun hq => ?_) <;> (try simp at hq) <;> simp -implicitDefEqProofs [*, node100, Peer.row, irow, Item.row, downTo, hw, w1, w2, w3, b1, b2, b3, reach]) | (with_reducible refine condC_dec (fun _ => ?_) (fun _ => ?_) <;> simp -implicitDefEqProofs [*, node100, Peer.row, irow, Item.row, downTo, hw, w1, w2, w3, b1, b2, b3, reach]) | (with_reducible refine condC_ndec (fun _ => ?_) (fun _ => ?_) <;> simp -implicitDefEqProofs [*, node100, Peer.row, irow, Item.row, downTo, hw, w1, w2, w3, b1, b2, b3, reach]) | (with_reducible refine condC_and (fun hq => ?_) (fun hq => ?_) <;> (try simp at hq) <;> simp -implicitDefEqProofs [*, node100, Peer.row, irow, Item.row, downTo, hw, w1, w2, w3, b1, b2, b3, reach]) | (with_reducible refine condC_or (fun hq => ?_) (fun hq => ?_) <;> (try simp at hq) <;> simp -implicitDefEqProofs [*, node100, Peer.row, irow, Item.row, downTo, hw, w1, w2, w3, b1, b2, b3, reach]) | (with_reducible refine condC_not (fun hq => ?_) (fun hq => ?_) <;> (try simp at hq) <;> simp -implicitDefEqProofs [*, node100, Peer.row, irow, Item.row, downTo, hw, w1, w2, w3, b1, b2, b3, reach]) | (with_reducible refine condC_split (fun hq => ?_) (fun hq => ?_) <;> (try simp at hq) <;> simp -implicitDefEqProofs [*, node100, Peer.row, irow, Item.row, downTo, hw, w1, w2, w3, b1, b2, b3, reach]) | (refine appK2_if (by omega) ?_; simp -implicitDefEqProofs [*, node100, Peer.row, irow, Item.row, downTo, hw, w1, w2, w3, b1, b2, b3, reach]) | (refine pureV_if (by omega) ?_; simp -implicitDefEqProofs [*, node100, Peer.row, irow, Item.row, downTo, hw, w1, w2, w3, b1, b2, b3, reach]))
    all_goals trace_state
  · have c1 := bad_share { node100 with log := List.replicate (64 + (1 + x % 1024)).toNat ⟨0, false, 0⟩ } (by simp [nodeUp, nodeMay]; omega) (by unfold Node.small View.small cap16 cap; simp [node100]; try omega)
    simp [node100, nodeD, Node.cells, peersD, intsD, itemsD, toldsD, Peer.row, irow, Item.row, Told.row] at c1
    simp -implicitDefEqProofs [c_gimmallaw18_ShareForms, hw, w1, w2, w3]
    repeat' (first | (refine callThen_of (by first | exact law18_awake | exact law18_node100 | exact c1 | exact den_nrm (c1) | exact den_nrm (by simpa using c1) | exact law_Num _ | exact i1) ?_; simp -implicitDefEqProofs [*, node100, Peer.row, irow, Item.row, downTo, hw, w1, w2, w3, b1, b2, b3, reach]) | (with_reducible refine gOps_dec (fun _ => ?_) (fun _ => ?_) <;> simp -implicitDefEqProofs [*, node100, Peer.row, irow, Item.row, downTo, hw, w1, w2, w3, b1, b2, b3, reach]) | (with_reducible refine gOps_ndec (fun _ => ?_) (fun _ => ?_) <;> simp -implicitDefEqProofs [*, node100, Peer.row, irow, Item.row, downTo, hw, w1, w2, w3, b1, b2, b3, reach]) | (with_reducible refine gOps_and (fun hq => ?_) (fun hq => ?_) <;> (try simp at hq) <;> simp -implicitDefEqProofs [*, node100, Peer.row, irow, Item.row, downTo, hw, w1, w2, w3, b1, b2, b3, reach]) | (with_reducible refine gOps_or (fun hq => ?_) (fun hq => ?_) <;> (try simp at hq) <;> simp -implicitDefEqProofs [*, node100, Peer.row, irow, Item.row, downTo, hw, w1, w2, w3, b1, b2, b3, reach]) | (with_reducible refine gOps_not (fun hq => ?_) (fun hq => ?_) <;> (try simp at hq) <;> simp -implicitDefEqProofs [*, node100, Peer.row, irow, Item.row, downTo, hw, w1, w2, w3, b1, b2, b3, reach]) | (with_reducible refine gOps_split (fun hq => ?_) (fun hq => ?_) <;> (try simp at hq) <;> simp -implicitDefEqProofs [*, node100, Peer.row, irow, Item.row, downTo, hw, w1, w2, w3, b1, b2, b3, reach]) | (with_reducible refine condC_dec (fun _ => ?_) (fun _ => ?_) <;> simp -implicitDefEqProofs [*, node100, Peer.row, irow, Item.row, downTo, hw, w1, w2, w3, b1, b2, b3, reach]) | (with_reducible refine condC_ndec (fun _ => ?_) (fun _ => ?_) <;> simp -implicitDefEqProofs [*, node100, Peer.row, irow, Item.row, downTo, hw, w1, w2, w3, b1, b2, b3, reach]) | (with_reducible refine condC_and (fun hq => ?_) (fun hq => ?_) <;> (try simp at hq) <;> simp -implicitDefEqProofs [*, node100, Peer.row, irow, Item.row, downTo, hw, w1, w2, w3, b1, b2, b3, reach]) | (with_reducible refine condC_or (fun hq => ?_) (fun hq => ?_) <;> (try simp at hq) <;> simp -implicitDefEqProofs [*, node100, Peer.row, irow, Item.row, downTo, hw, w1, w2, w3, b1, b2, b3, reach]) | (with_reducible refine condC_not (fun hq => ?_) (fun hq => ?_) <;> (try simp at hq) <;> simp -implicitDefEqProofs [*, node100, Peer.row, irow, Item.row, downTo, hw, w1, w2, w3, b1, b2, b3, reach]) | (with_reducible refine condC_split (fun hq => ?_) (fun hq => ?_) <;> (try simp at hq) <;> simp -implicitDefEqProofs [*, node100, Peer.row, irow, Item.row, downTo, hw, w1, w2, w3, b1, b2, b3, reach]) | (refine appK2_if (by omega) ?_; simp -implicitDefEqProofs [*, node100, Peer.row, irow, Item.row, downTo, hw, w1, w2, w3, b1, b2, b3, reach]) | (refine pureV_if (by omega) ?_; simp -implicitDefEqProofs [*, node100, Peer.row, irow, Item.row, downTo, hw, w1, w2, w3, b1, b2, b3, reach]))
    all_goals trace_state
end Go.AM
/- AM: contracts: the document's best, its put; what a node takes. -/
namespace Go.AM
set_option linter.unusedSimpArgs false
set_option linter.unusedVariables false
set_option maxRecDepth 8000
set_option maxHeartbeats 0
def newerR (a b : Item) : Bool × Int := if verMay a.count a.writer && verMay b.count b.writer then (decide (b.count < a.count) || decide (a.count = b.count) && decide (b.writer < a.writer), 0) else (false, 300)
theorem ref_Newer (a b : Item) : Den PP 93 [.agg [.int .i64 a.count, .int .i64 a.writer], .agg [.int .i64 b.count, .int .i64 b.writer]] [] (.tup [.bool (newerR a b).1, .int .i64 (newerR a b).2]) [] := by
  refine den_of [] [] is_gimmalref1_Newer ?_
  simp -implicitDefEqProofs [c_gimmalref1_Newer]
  repeat' (first | (refine callThen_of (by first | exact ref_VersionMay _ _) ?_; simp -implicitDefEqProofs [*, newerR]) | (with_reducible refine gOps_dec (fun _ => ?_) (fun _ => ?_) <;> simp -implicitDefEqProofs [*, newerR]) | (with_reducible refine gOps_ndec (fun _ => ?_) (fun _ => ?_) <;> simp -implicitDefEqProofs [*, newerR]) | (with_reducible refine gOps_and (fun hq => ?_) (fun hq => ?_) <;> (try simp at hq) <;> simp -implicitDefEqProofs [*, newerR]) | (with_reducible refine gOps_or (fun hq => ?_) (fun hq => ?_) <;> (try simp at hq) <;> simp -implicitDefEqProofs [*, newerR]) | (with_reducible refine gOps_not (fun hq => ?_) (fun hq => ?_) <;> (try simp at hq) <;> simp -implicitDefEqProofs [*, newerR]) | (with_reducible refine gOps_split (fun hq => ?_) (fun hq => ?_) <;> (try simp at hq) <;> simp -implicitDefEqProofs [*, newerR]) | (with_reducible refine condC_dec (fun _ => ?_) (fun _ => ?_) <;> simp -implicitDefEqProofs [*, newerR]) | (with_reducible refine condC_ndec (fun _ => ?_) (fun _ => ?_) <;> simp -implicitDefEqProofs [*, newerR]) | (with_reducible refine condC_and (fun hq => ?_) (fun hq => ?_) <;> (try simp at hq) <;> simp -implicitDefEqProofs [*, newerR]) | (with_reducible refine condC_or (fun hq => ?_) (fun hq => ?_) <;> (try simp at hq) <;> simp -implicitDefEqProofs [*, newerR]) | (with_reducible refine condC_not (fun hq => ?_) (fun hq => ?_) <;> (try simp at hq) <;> simp -implicitDefEqProofs [*, newerR]) | (with_reducible refine condC_split (fun hq => ?_) (fun hq => ?_) <;> (try simp at hq) <;> simp -implicitDefEqProofs [*, newerR]) | (refine appK2_if (by omega) ?_; simp -implicitDefEqProofs [*, newerR]) | (refine pureV_if (by omega) ?_; simp -implicitDefEqProofs [*, newerR]))
def bestR (a b : Item) : Item × Int := if itemMay a && (itemMay b && decide (a.key = b.key)) then (bestI a b, 0) else (zeroItem, 400)
theorem ref_Best (a b : Item) : Den PP 84 [.agg a.row, .agg b.row] [] (.tup [.agg (bestR a b).1.row, .int .i64 (bestR a b).2]) [] := by
  have c1 := ref_ItemMay a
  have c2 := ref_ItemMay b
  have c3 := ref_Newer a b
  have hv : itemMay a = true → itemMay b = true → newerR a b = (decide (b.count < a.count) || decide (a.count = b.count) && decide (b.writer < a.writer), 0) := by
    intro h1 h2
    simp only [itemMay, Bool.and_eq_true] at h1 h2
    simp [newerR, h1.1.2, h2.1.2]
  have hg1 : itemMay a = true → a.gone = true → a.value = 0 := by
    intro h1 h2
    simp [itemMay, h2] at h1
    exact h1.2
  have hg2 : itemMay b = true → b.gone = true → b.value = 0 := by
    intro h1 h2
    simp [itemMay, h2] at h1
    exact h1.2
  have hbr : bestR a b = if itemMay a && (itemMay b && decide (a.key = b.key)) then (bestI a b, 0) else (zeroItem, 400) := rfl
  obtain ⟨A, hA⟩ : ∃ A, itemMay a = A := ⟨_, rfl⟩
  obtain ⟨B, hB⟩ : ∃ B, itemMay b = B := ⟨_, rfl⟩
  rw [hA] at c1 hv hg1 hbr
  rw [hB] at c2 hv hg2 hbr
  obtain ⟨r, hr⟩ : ∃ r, bestR a b = r := ⟨_, rfl⟩
  obtain ⟨nr, hnr⟩ : ∃ nr, newerR a b = nr := ⟨_, rfl⟩
  rw [hr] at hbr ⊢
  rw [hnr] at hv c3
  obtain ⟨ak, ac, aw, av, ag⟩ := a
  obtain ⟨bk, bc, bw, bv, bg⟩ := b
  simp only [Item.row] at c1 c2 c3 hv hg1 hg2 hbr ⊢
  clear hA hB hr hnr
  refine den_of [] [] is_gimmalref1_Best ?_
  cases ag <;> cases bg
  all_goals
    simp -implicitDefEqProofs [c_gimmalref1_Best, EQS]
    repeat' (first | (refine callThen_of (by first | exact c1 | exact c2 | exact c3) ?_; simp -implicitDefEqProofs [*, EQS]) | (with_reducible refine gOps_dec (fun _ => ?_) (fun _ => ?_) <;> simp -implicitDefEqProofs [*, EQS]) | (with_reducible refine gOps_ndec (fun _ => ?_) (fun _ => ?_) <;> simp -implicitDefEqProofs [*, EQS]) | (with_reducible refine gOps_and (fun hq => ?_) (fun hq => ?_) <;> (try simp at hq) <;> simp -implicitDefEqProofs [*, EQS]) | (with_reducible refine gOps_or (fun hq => ?_) (fun hq => ?_) <;> (try simp at hq) <;> simp -implicitDefEqProofs [*, EQS]) | (with_reducible refine gOps_not (fun hq => ?_) (fun hq => ?_) <;> (try simp at hq) <;> simp -implicitDefEqProofs [*, EQS]) | (with_reducible refine gOps_split (fun hq => ?_) (fun hq => ?_) <;> (try simp at hq) <;> simp -implicitDefEqProofs [*, EQS]) | (with_reducible refine condC_dec (fun _ => ?_) (fun _ => ?_) <;> simp -implicitDefEqProofs [*, EQS]) | (with_reducible refine condC_ndec (fun _ => ?_) (fun _ => ?_) <;> simp -implicitDefEqProofs [*, EQS]) | (with_reducible refine condC_and (fun hq => ?_) (fun hq => ?_) <;> (try simp at hq) <;> simp -implicitDefEqProofs [*, EQS]) | (with_reducible refine condC_or (fun hq => ?_) (fun hq => ?_) <;> (try simp at hq) <;> simp -implicitDefEqProofs [*, EQS]) | (with_reducible refine condC_not (fun hq => ?_) (fun hq => ?_) <;> (try simp at hq) <;> simp -implicitDefEqProofs [*, EQS]) | (with_reducible refine condC_split (fun hq => ?_) (fun hq => ?_) <;> (try simp at hq) <;> simp -implicitDefEqProofs [*, EQS]) | (refine appK2_if (by omega) ?_; simp -implicitDefEqProofs [*, EQS]) | (refine pureV_if (by omega) ?_; simp -implicitDefEqProofs [*, EQS]))
    all_goals (subst hbr; simp [bestI, better, zeroItem] <;> grind)
def inv_Put (is : List Item) (x : Item) (i : Nat) (rest : List Item) : St → Prop := fun ⟨fr, bs⟩ => ∃ acc inn, bs = [⟨[x.row], 5, .box⟩, ⟨[], 5, .mut⟩, ⟨acc.map Item.row, 5, .mut⟩] ∧ acc.length ≤ 2 * i ∧ acc ++ putG x inn rest = putG x false is ∧ fr 0 = itemsD is ∧ fr 3 = .ptr 0 0 0 ∧ fr 6 = .ref 2 0 acc.length ∧ fr 7 = .bool inn ∧ fr 8 = .int .i64 i
def end_Put (is : List Item) (x : Item) : St → Prop := fun ⟨fr, bs⟩ => ∃ acc inn, bs = [⟨[x.row], 5, .box⟩, ⟨[], 5, .mut⟩, ⟨acc.map Item.row, 5, .mut⟩] ∧ acc.length ≤ 2 * is.length ∧ acc ++ putG x inn [] = putG x false is ∧ fr 3 = .ptr 0 0 0 ∧ fr 6 = .ref 2 0 acc.length ∧ fr 7 = .bool inn
theorem ref_PutStore (is : List Item) (x : Item) (hl : is.length ≤ cap16) : Den PP 74 [itemsD is, .agg x.row] [] (.tup [.ref 0 0 (putR is x).1.length, .int .i64 (putR is x).2]) [⟨(putR is x).1.map Item.row, 5, .mut⟩] := by
  have c1 := ref_StoreMay is hl
  have c2 := ref_ItemMay x
  simp only [itemsD, Item.row] at c1 c2
  refine den_of [] [] is_gimmalref1_PutStore ?_
  obtain ⟨r, hr⟩ : ∃ r, putR is x = r := ⟨_, rfl⟩
  have hr' := hr
  unfold putR at hr'
  rw [hr]
  cases hm : storeMay is with
  | false =>
    rw [hm] at hr' c1
    simp at hr'
    subst hr'
    simp -implicitDefEqProofs [c_gimmalref1_PutStore, itemsD, Item.row]
    repeat' (first | (refine callThen_of (by first | exact c1) ?_; simp -implicitDefEqProofs [*]) | (with_reducible refine gOps_dec (fun _ => ?_) (fun _ => ?_) <;> simp -implicitDefEqProofs [*]) | (with_reducible refine gOps_ndec (fun _ => ?_) (fun _ => ?_) <;> simp -implicitDefEqProofs [*]) | (with_reducible refine gOps_and (fun hq => ?_) (fun hq => ?_) <;> (try simp at hq) <;> simp -implicitDefEqProofs [*]) | (with_reducible refine gOps_or (fun hq => ?_) (fun hq => ?_) <;> (try simp at hq) <;> simp -implicitDefEqProofs [*]) | (with_reducible refine gOps_not (fun hq => ?_) (fun hq => ?_) <;> (try simp at hq) <;> simp -implicitDefEqProofs [*]) | (with_reducible refine gOps_split (fun hq => ?_) (fun hq => ?_) <;> (try simp at hq) <;> simp -implicitDefEqProofs [*]) | (with_reducible refine condC_dec (fun _ => ?_) (fun _ => ?_) <;> simp -implicitDefEqProofs [*]) | (with_reducible refine condC_ndec (fun _ => ?_) (fun _ => ?_) <;> simp -implicitDefEqProofs [*]) | (with_reducible refine condC_and (fun hq => ?_) (fun hq => ?_) <;> (try simp at hq) <;> simp -implicitDefEqProofs [*]) | (with_reducible refine condC_or (fun hq => ?_) (fun hq => ?_) <;> (try simp at hq) <;> simp -implicitDefEqProofs [*]) | (with_reducible refine condC_not (fun hq => ?_) (fun hq => ?_) <;> (try simp at hq) <;> simp -implicitDefEqProofs [*]) | (with_reducible refine condC_split (fun hq => ?_) (fun hq => ?_) <;> (try simp at hq) <;> simp -implicitDefEqProofs [*]) | (refine appK2_if (by omega) ?_; simp -implicitDefEqProofs [*]) | (refine pureV_if (by omega) ?_; simp -implicitDefEqProofs [*]))
  | true =>
    cases hx : itemMay x with
    | false =>
      rw [hm, hx] at hr'
      rw [hm] at c1
      rw [hx] at c2
      simp at hr'
      subst hr'
      simp -implicitDefEqProofs [c_gimmalref1_PutStore, itemsD, Item.row]
      repeat' (first | (refine callThen_of (by first | exact c1 | exact c2) ?_; simp -implicitDefEqProofs [*]) | (with_reducible refine gOps_dec (fun _ => ?_) (fun _ => ?_) <;> simp -implicitDefEqProofs [*]) | (with_reducible refine gOps_ndec (fun _ => ?_) (fun _ => ?_) <;> simp -implicitDefEqProofs [*]) | (with_reducible refine gOps_and (fun hq => ?_) (fun hq => ?_) <;> (try simp at hq) <;> simp -implicitDefEqProofs [*]) | (with_reducible refine gOps_or (fun hq => ?_) (fun hq => ?_) <;> (try simp at hq) <;> simp -implicitDefEqProofs [*]) | (with_reducible refine gOps_not (fun hq => ?_) (fun hq => ?_) <;> (try simp at hq) <;> simp -implicitDefEqProofs [*]) | (with_reducible refine gOps_split (fun hq => ?_) (fun hq => ?_) <;> (try simp at hq) <;> simp -implicitDefEqProofs [*]) | (with_reducible refine condC_dec (fun _ => ?_) (fun _ => ?_) <;> simp -implicitDefEqProofs [*]) | (with_reducible refine condC_ndec (fun _ => ?_) (fun _ => ?_) <;> simp -implicitDefEqProofs [*]) | (with_reducible refine condC_and (fun hq => ?_) (fun hq => ?_) <;> (try simp at hq) <;> simp -implicitDefEqProofs [*]) | (with_reducible refine condC_or (fun hq => ?_) (fun hq => ?_) <;> (try simp at hq) <;> simp -implicitDefEqProofs [*]) | (with_reducible refine condC_not (fun hq => ?_) (fun hq => ?_) <;> (try simp at hq) <;> simp -implicitDefEqProofs [*]) | (with_reducible refine condC_split (fun hq => ?_) (fun hq => ?_) <;> (try simp at hq) <;> simp -implicitDefEqProofs [*]) | (refine appK2_if (by omega) ?_; simp -implicitDefEqProofs [*]) | (refine pureV_if (by omega) ?_; simp -implicitDefEqProofs [*]))
    | true =>
      rw [hm, hx] at hr'
      rw [hm] at c1
      rw [hx] at c2
      simp only [Bool.and_self, if_true] at hr'
      obtain ⟨hall, hris, hlen⟩ := (storeMay_iff is).1 hm
      rw [← putG_eq x is hris] at hr'
      simp -implicitDefEqProofs [c_gimmalref1_PutStore, itemsD, Item.row]
      repeat' (first | (refine callThen_of (by first | exact c1 | exact c2) ?_; simp -implicitDefEqProofs [*]) | (with_reducible refine gOps_dec (fun _ => ?_) (fun _ => ?_) <;> simp -implicitDefEqProofs [*]) | (with_reducible refine gOps_ndec (fun _ => ?_) (fun _ => ?_) <;> simp -implicitDefEqProofs [*]) | (with_reducible refine gOps_and (fun hq => ?_) (fun hq => ?_) <;> (try simp at hq) <;> simp -implicitDefEqProofs [*]) | (with_reducible refine gOps_or (fun hq => ?_) (fun hq => ?_) <;> (try simp at hq) <;> simp -implicitDefEqProofs [*]) | (with_reducible refine gOps_not (fun hq => ?_) (fun hq => ?_) <;> (try simp at hq) <;> simp -implicitDefEqProofs [*]) | (with_reducible refine gOps_split (fun hq => ?_) (fun hq => ?_) <;> (try simp at hq) <;> simp -implicitDefEqProofs [*]) | (with_reducible refine condC_dec (fun _ => ?_) (fun _ => ?_) <;> simp -implicitDefEqProofs [*]) | (with_reducible refine condC_ndec (fun _ => ?_) (fun _ => ?_) <;> simp -implicitDefEqProofs [*]) | (with_reducible refine condC_and (fun hq => ?_) (fun hq => ?_) <;> (try simp at hq) <;> simp -implicitDefEqProofs [*]) | (with_reducible refine condC_or (fun hq => ?_) (fun hq => ?_) <;> (try simp at hq) <;> simp -implicitDefEqProofs [*]) | (with_reducible refine condC_not (fun hq => ?_) (fun hq => ?_) <;> (try simp at hq) <;> simp -implicitDefEqProofs [*]) | (with_reducible refine condC_split (fun hq => ?_) (fun hq => ?_) <;> (try simp at hq) <;> simp -implicitDefEqProofs [*]) | (refine appK2_if (by omega) ?_; simp -implicitDefEqProofs [*]) | (refine pureV_if (by omega) ?_; simp -implicitDefEqProofs [*]))
      refine list_rule is (inv_Put is x) (end_Put is x) (fun ⟨fr, bs⟩ => False) c_gimmalref1_PutStore_L0.eq_1 ?_ ?_ ?_ ?_ ?_
      · exact ⟨[], false, rfl, by simp, rfl, rfl, rfl, rfl, rfl, rfl⟩
      · rintro i ⟨fr, bs⟩ hi ⟨acc, inn, rfl, hal, he, h0, h3, h6, h7, h8⟩
        simp -implicitDefEqProofs [h0, h3, h6, h7, h8, hi, itemsD]
        exact ⟨acc, inn, rfl, by simpa [hi] using hal, he, by simp [h3], by simp [h6], by simp [h7]⟩
      · rintro i a rest ⟨fr, bs⟩ hlt hget hg hd hd2 ⟨acc, inn, rfl, hal, he, h0, h3, h6, h7, h8⟩
        have hlt' : (i : Int) < is.length := by omega
        have hw := wrap_next (n := i) (by omega)
        have ham := hall a (List.mem_of_getElem? hget)
        have c3 := ref_Best a x
        have c4 : a.key = x.key → Den PP 84 [.agg [.int .i64 x.key, .int .i64 a.count, .int .i64 a.writer, .int .i64 a.value, .bool a.gone], .agg [.int .i64 x.key, .int .i64 x.count, .int .i64 x.writer, .int .i64 x.value, .bool x.gone]] [] (.tup [.agg (bestI a x).row, .int .i64 0]) [] := by
          intro h
          simp only [bestR, ham, hx, Bool.true_and, Item.row, h, decide_true, if_true] at c3
          exact c3
        clear c3
        simp only [putG] at he
        have hbo : ∀ b : Bool, (inn = b) → True := fun _ _ => trivial
        clear hbo
        simp -implicitDefEqProofs [h0, h3, h6, h7, h8, hlt, hlt', hget, hg, itemsD, Item.row]
        repeat' (first | (refine callThen_of (by first | exact c4 (by assumption)) ?_; simp -implicitDefEqProofs [*, itemsD, Item.row, hw, Fits]) | (with_reducible refine gOps_dec (fun _ => ?_) (fun _ => ?_) <;> simp -implicitDefEqProofs [*, itemsD, Item.row, hw, Fits]) | (with_reducible refine gOps_ndec (fun _ => ?_) (fun _ => ?_) <;> simp -implicitDefEqProofs [*, itemsD, Item.row, hw, Fits]) | (with_reducible refine gOps_and (fun hq => ?_) (fun hq => ?_) <;> (try simp at hq) <;> simp -implicitDefEqProofs [*, itemsD, Item.row, hw, Fits]) | (with_reducible refine gOps_or (fun hq => ?_) (fun hq => ?_) <;> (try simp at hq) <;> simp -implicitDefEqProofs [*, itemsD, Item.row, hw, Fits]) | (with_reducible refine gOps_not (fun hq => ?_) (fun hq => ?_) <;> (try simp at hq) <;> simp -implicitDefEqProofs [*, itemsD, Item.row, hw, Fits]) | (with_reducible refine gOps_split (fun hq => ?_) (fun hq => ?_) <;> (try simp at hq) <;> simp -implicitDefEqProofs [*, itemsD, Item.row, hw, Fits]) | (with_reducible refine condC_dec (fun _ => ?_) (fun _ => ?_) <;> simp -implicitDefEqProofs [*, itemsD, Item.row, hw, Fits]) | (with_reducible refine condC_ndec (fun _ => ?_) (fun _ => ?_) <;> simp -implicitDefEqProofs [*, itemsD, Item.row, hw, Fits]) | (with_reducible refine condC_and (fun hq => ?_) (fun hq => ?_) <;> (try simp at hq) <;> simp -implicitDefEqProofs [*, itemsD, Item.row, hw, Fits]) | (with_reducible refine condC_or (fun hq => ?_) (fun hq => ?_) <;> (try simp at hq) <;> simp -implicitDefEqProofs [*, itemsD, Item.row, hw, Fits]) | (with_reducible refine condC_not (fun hq => ?_) (fun hq => ?_) <;> (try simp at hq) <;> simp -implicitDefEqProofs [*, itemsD, Item.row, hw, Fits]) | (with_reducible refine condC_split (fun hq => ?_) (fun hq => ?_) <;> (try simp at hq) <;> simp -implicitDefEqProofs [*, itemsD, Item.row, hw, Fits]) | (refine appK2_if (by omega) ?_; simp -implicitDefEqProofs [*, itemsD, Item.row, hw, Fits]) | (refine pureV_if (by omega) ?_; simp -implicitDefEqProofs [*, itemsD, Item.row, hw, Fits]))
        all_goals
          refine ⟨acc ++ ((if inn = false ∧ x.key < a.key then [x] else []) ++ (if a.key = x.key then [bestI a x] else [a])), inn || decide (x.key < a.key) || decide (a.key = x.key), ?_⟩
          simp [*, Item.row]
          grind
      · rintro ⟨fr, bs⟩ ⟨acc, inn, rfl, hal, he, h3, h6, h7⟩
        simp only [putG] at he
        generalize hG : putG x false is = G at *
        clear hr
        simp -implicitDefEqProofs [h3, h6, h7]
        repeat' (first | (with_reducible refine gOps_dec (fun _ => ?_) (fun _ => ?_) <;> simp -implicitDefEqProofs [*, Item.row, Fits]) | (with_reducible refine gOps_ndec (fun _ => ?_) (fun _ => ?_) <;> simp -implicitDefEqProofs [*, Item.row, Fits]) | (with_reducible refine gOps_and (fun hq => ?_) (fun hq => ?_) <;> (try simp at hq) <;> simp -implicitDefEqProofs [*, Item.row, Fits]) | (with_reducible refine gOps_or (fun hq => ?_) (fun hq => ?_) <;> (try simp at hq) <;> simp -implicitDefEqProofs [*, Item.row, Fits]) | (with_reducible refine gOps_not (fun hq => ?_) (fun hq => ?_) <;> (try simp at hq) <;> simp -implicitDefEqProofs [*, Item.row, Fits]) | (with_reducible refine gOps_split (fun hq => ?_) (fun hq => ?_) <;> (try simp at hq) <;> simp -implicitDefEqProofs [*, Item.row, Fits]) | (with_reducible refine condC_dec (fun _ => ?_) (fun _ => ?_) <;> simp -implicitDefEqProofs [*, Item.row, Fits]) | (with_reducible refine condC_ndec (fun _ => ?_) (fun _ => ?_) <;> simp -implicitDefEqProofs [*, Item.row, Fits]) | (with_reducible refine condC_and (fun hq => ?_) (fun hq => ?_) <;> (try simp at hq) <;> simp -implicitDefEqProofs [*, Item.row, Fits]) | (with_reducible refine condC_or (fun hq => ?_) (fun hq => ?_) <;> (try simp at hq) <;> simp -implicitDefEqProofs [*, Item.row, Fits]) | (with_reducible refine condC_not (fun hq => ?_) (fun hq => ?_) <;> (try simp at hq) <;> simp -implicitDefEqProofs [*, Item.row, Fits]) | (with_reducible refine condC_split (fun hq => ?_) (fun hq => ?_) <;> (try simp at hq) <;> simp -implicitDefEqProofs [*, Item.row, Fits]) | (refine appK2_if (by omega) ?_; simp -implicitDefEqProofs [*, Item.row, Fits]) | (refine pureV_if (by omega) ?_; simp -implicitDefEqProofs [*, Item.row, Fits]))
        all_goals (subst hr'; grind [Item.row])
      · rintro ⟨fr, bs⟩ h
        exact h.elim
end Go.AM
/- AM: contracts: a node takes an item; chapter 18's statement on all of them. -/
namespace Go.AM
set_option linter.unusedSimpArgs false
set_option linter.unusedVariables false
set_option maxRecDepth 8000
set_option maxHeartbeats 0
def takeN (x : Node) (i : Item) : Node := { x with items := if (putS i x.items).length ≤ 16 then putS i x.items else x.items }
theorem takeN_may {x : Node} {i : Item} (h : nodeUp x = true) (hi : itemMay i = true) : nodeUp (takeN x i) = true := by
  obtain ⟨h1, h2, h3, h4, h5⟩ := nodeUp_parts h
  have hs : storeMay (takeN x i).items = true := by
    unfold takeN
    by_cases hl : (putS i x.items).length ≤ 16
    · simp only [hl, if_true]
      rw [storeMay_iff] at h3 ⊢
      refine ⟨fun j hj => ?_, putS_rising h3.2.1, hl⟩
      rcases putS_mem hj with rfl | hj
      · exact hi
      · exact h3.1 j hj
    · simp only [hl, if_false]
      exact h3
  have hlog : x.log.any toldOdd = false := by
    simp only [nodeMay, Bool.and_eq_true, Bool.not_eq_true'] at h5
    exact h5.2
  have e1 : (takeN x i).up = x.up := rfl
  have e2 : (takeN x i).view = x.view := rfl
  have e3 : (takeN x i).log = x.log := rfl
  simp [nodeUp, nodeMay, e1, e2, e3, h1, h2, hs, h4, hlog]
theorem ref_copyNode (x : Node) (hs : x.small) : Den PP 73 [nodeD x] [] (.agg [.bool x.up, .int .i64 x.view.id, .ref 0 0 x.view.peers.length, .ref 1 0 x.view.passive.length, .ref 2 0 x.items.length, .ref 3 0 x.log.length])
    [⟨x.view.peers.map Peer.row, 2, .mut⟩, ⟨x.view.passive.map irow, 1, .mut⟩, ⟨x.items.map Item.row, 5, .mut⟩, ⟨x.log.map Told.row, 3, .mut⟩] := by
  obtain ⟨⟨h1, h2⟩, h3, h4⟩ := hs
  unfold cap16 at h1
  unfold cap at h2
  refine den_of [] [] is_gimmalref16_copyNode ?_
  simp -implicitDefEqProofs [c_gimmalref16_copyNode, nodeD, Node.cells, peersD, intsD, itemsD, toldsD]
  repeat' (first | (with_reducible refine gOps_dec (fun _ => ?_) (fun _ => ?_) <;> simp -implicitDefEqProofs [*]) | (with_reducible refine gOps_ndec (fun _ => ?_) (fun _ => ?_) <;> simp -implicitDefEqProofs [*]) | (with_reducible refine gOps_and (fun hq => ?_) (fun hq => ?_) <;> (try simp at hq) <;> simp -implicitDefEqProofs [*]) | (with_reducible refine gOps_or (fun hq => ?_) (fun hq => ?_) <;> (try simp at hq) <;> simp -implicitDefEqProofs [*]) | (with_reducible refine gOps_not (fun hq => ?_) (fun hq => ?_) <;> (try simp at hq) <;> simp -implicitDefEqProofs [*]) | (with_reducible refine gOps_split (fun hq => ?_) (fun hq => ?_) <;> (try simp at hq) <;> simp -implicitDefEqProofs [*]) | (with_reducible refine condC_dec (fun _ => ?_) (fun _ => ?_) <;> simp -implicitDefEqProofs [*]) | (with_reducible refine condC_ndec (fun _ => ?_) (fun _ => ?_) <;> simp -implicitDefEqProofs [*]) | (with_reducible refine condC_and (fun hq => ?_) (fun hq => ?_) <;> (try simp at hq) <;> simp -implicitDefEqProofs [*]) | (with_reducible refine condC_or (fun hq => ?_) (fun hq => ?_) <;> (try simp at hq) <;> simp -implicitDefEqProofs [*]) | (with_reducible refine condC_not (fun hq => ?_) (fun hq => ?_) <;> (try simp at hq) <;> simp -implicitDefEqProofs [*]) | (with_reducible refine condC_split (fun hq => ?_) (fun hq => ?_) <;> (try simp at hq) <;> simp -implicitDefEqProofs [*]) | (refine appK2_if (by omega) ?_; simp -implicitDefEqProofs [*]) | (refine pureV_if (by omega) ?_; simp -implicitDefEqProofs [*]))
theorem ref_Take (x : Node) (i : Item) (hs : x.small) (h : (nodeUp x && itemMay i) = true) : Den PP 43 [nodeD x, .agg i.row] [] (.tup [nodeD (takeN x i), .int .i64 0]) [] := by
  have c1 := ref_upMay x hs
  have c2 := ref_ItemMay i
  have c3 := ref_copyNode x hs
  have c4 := ref_PutStore x.items i (by have := hs.2.1; unfold cap16; omega)
  simp only [Bool.and_eq_true] at h
  have hst := (nodeUp_parts h.1).2.2.1
  have hp : putR x.items i = if (putS i x.items).length ≤ 16 then (putS i x.items, 0) else ([], 501) := by simp [putR, hst, h.2]
  have ht : nodeD (takeN x i) = .agg [.bool x.up, .int .i64 x.view.id, peersD x.view.peers, intsD x.view.passive, itemsD (if (putS i x.items).length ≤ 16 then putS i x.items else x.items), toldsD x.log] := rfl
  rw [hp] at c4
  rw [h.1] at c1
  rw [h.2] at c2
  rw [ht]
  simp only [nodeD, Node.cells, peersD, intsD, itemsD, toldsD, Item.row] at c1 c2 c3 c4 ⊢
  refine den_of [] [] is_gimmalref16_Take ?_
  by_cases hl : (putS i x.items).length ≤ 16
  all_goals
    simp only [hl, if_true, if_false] at c4 ⊢
    simp -implicitDefEqProofs [c_gimmalref16_Take, nodeD, Node.cells, peersD, intsD, itemsD, toldsD, Item.row]
    repeat' (first | (refine callThen_of (by first | exact c1 | exact c2 | exact c3 | exact c4) ?_; simp -implicitDefEqProofs [*, downTo]) | (with_reducible refine gOps_dec (fun _ => ?_) (fun _ => ?_) <;> simp -implicitDefEqProofs [*, downTo]) | (with_reducible refine gOps_ndec (fun _ => ?_) (fun _ => ?_) <;> simp -implicitDefEqProofs [*, downTo]) | (with_reducible refine gOps_and (fun hq => ?_) (fun hq => ?_) <;> (try simp at hq) <;> simp -implicitDefEqProofs [*, downTo]) | (with_reducible refine gOps_or (fun hq => ?_) (fun hq => ?_) <;> (try simp at hq) <;> simp -implicitDefEqProofs [*, downTo]) | (with_reducible refine gOps_not (fun hq => ?_) (fun hq => ?_) <;> (try simp at hq) <;> simp -implicitDefEqProofs [*, downTo]) | (with_reducible refine gOps_split (fun hq => ?_) (fun hq => ?_) <;> (try simp at hq) <;> simp -implicitDefEqProofs [*, downTo]) | (with_reducible refine condC_dec (fun _ => ?_) (fun _ => ?_) <;> simp -implicitDefEqProofs [*, downTo]) | (with_reducible refine condC_ndec (fun _ => ?_) (fun _ => ?_) <;> simp -implicitDefEqProofs [*, downTo]) | (with_reducible refine condC_and (fun hq => ?_) (fun hq => ?_) <;> (try simp at hq) <;> simp -implicitDefEqProofs [*, downTo]) | (with_reducible refine condC_or (fun hq => ?_) (fun hq => ?_) <;> (try simp at hq) <;> simp -implicitDefEqProofs [*, downTo]) | (with_reducible refine condC_not (fun hq => ?_) (fun hq => ?_) <;> (try simp at hq) <;> simp -implicitDefEqProofs [*, downTo]) | (with_reducible refine condC_split (fun hq => ?_) (fun hq => ?_) <;> (try simp at hq) <;> simp -implicitDefEqProofs [*, downTo]) | (refine appK2_if (by omega) ?_; simp -implicitDefEqProofs [*, downTo]) | (refine pureV_if (by omega) ?_; simp -implicitDefEqProofs [*, downTo]))
    all_goals simp_all
theorem takes_parts : ∀ (is : List Item) (x : Node), nodeUp x = true → (∀ i ∈ is, itemMay i = true) → nodeUp (is.foldl takeN x) = true ∧ (is.foldl takeN x).view = x.view ∧ (is.foldl takeN x).up = x.up ∧ (is.foldl takeN x).log = x.log ∧ (x.items.length + is.length ≤ 16 → (is.foldl takeN x).items = is.foldl (fun s i => putS i s) x.items) := by
  intro is
  induction is with
  | nil => intro x h _; exact ⟨h, rfl, rfl, rfl, fun _ => rfl⟩
  | cons i is ih =>
    intro x h hi
    obtain ⟨h1, h2, h3, h4, h5⟩ := ih (takeN x i) (takeN_may h (hi i (by simp))) (fun j hj => hi j (by simp [hj]))
    refine ⟨h1, h2, h3, h4, fun hl => ?_⟩
    have hle := putS_length_le i x.items
    simp only [List.length_cons] at hl
    have ht : (takeN x i).items = putS i x.items := by
      unfold takeN
      simp only
      rw [if_pos (by omega)]
    rw [List.foldl_cons, h5 (by rw [ht]; omega), ht]
    rfl
theorem takes_small {x : Node} (hs : x.small) (h : nodeUp x = true) {is : List Item} (hi : ∀ i ∈ is, itemMay i = true) : (is.foldl takeN x).small := by
  obtain ⟨h1, h2, _, h4, _⟩ := takes_parts is x h hi
  have h5 := (nodeUp_parts h1).2.2.1
  rw [storeMay_iff] at h5
  refine ⟨by rw [h2]; exact hs.1, by omega, by rw [h4]; exact hs.2.2⟩
theorem law18_ShareAll (x y : Node) (hs : x.small) (hsy : y.small) : Den PP 12 [nodeD x, nodeD y] [] (.bool true) [] := by
  have g1 := share_Of x hs
  have g2 := ref_NodeMay y hsy
  refine den_of [] [] is_gimmallaw18_ShareAll ?_
  cases hu : nodeUp x with
  | false =>
    have e : shareOf x = ([], 1800) := by simp [shareOf, hu]
    rw [e] at g1
    simp [nodeD, Node.cells, peersD, intsD, itemsD, toldsD] at g1
    simp -implicitDefEqProofs [c_gimmallaw18_ShareAll, nodeD, Node.cells, peersD, intsD, itemsD, toldsD]
    repeat' (first | (refine callThen_of (by first | exact law18_awake | exact g1 | exact law_Num _) ?_; simp -implicitDefEqProofs [*, downTo]) | (with_reducible refine gOps_dec (fun _ => ?_) (fun _ => ?_) <;> simp -implicitDefEqProofs [*, downTo]) | (with_reducible refine gOps_ndec (fun _ => ?_) (fun _ => ?_) <;> simp -implicitDefEqProofs [*, downTo]) | (with_reducible refine gOps_and (fun hq => ?_) (fun hq => ?_) <;> (try simp at hq) <;> simp -implicitDefEqProofs [*, downTo]) | (with_reducible refine gOps_or (fun hq => ?_) (fun hq => ?_) <;> (try simp at hq) <;> simp -implicitDefEqProofs [*, downTo]) | (with_reducible refine gOps_not (fun hq => ?_) (fun hq => ?_) <;> (try simp at hq) <;> simp -implicitDefEqProofs [*, downTo]) | (with_reducible refine gOps_split (fun hq => ?_) (fun hq => ?_) <;> (try simp at hq) <;> simp -implicitDefEqProofs [*, downTo]) | (with_reducible refine condC_dec (fun _ => ?_) (fun _ => ?_) <;> simp -implicitDefEqProofs [*, downTo]) | (with_reducible refine condC_ndec (fun _ => ?_) (fun _ => ?_) <;> simp -implicitDefEqProofs [*, downTo]) | (with_reducible refine condC_and (fun hq => ?_) (fun hq => ?_) <;> (try simp at hq) <;> simp -implicitDefEqProofs [*, downTo]) | (with_reducible refine condC_or (fun hq => ?_) (fun hq => ?_) <;> (try simp at hq) <;> simp -implicitDefEqProofs [*, downTo]) | (with_reducible refine condC_not (fun hq => ?_) (fun hq => ?_) <;> (try simp at hq) <;> simp -implicitDefEqProofs [*, downTo]) | (with_reducible refine condC_split (fun hq => ?_) (fun hq => ?_) <;> (try simp at hq) <;> simp -implicitDefEqProofs [*, downTo]) | (refine appK2_if (by omega) ?_; simp -implicitDefEqProofs [*, downTo]) | (refine pureV_if (by omega) ?_; simp -implicitDefEqProofs [*, downTo]))
  | true =>
    have hxs := (nodeUp_parts hu).2.2.1
    have hxi := storeMay_mem hxs
    rw [storeMay_iff] at hxs
    by_cases hy : nodeUp y = true
    · have hyi := storeMay_mem (nodeUp_parts hy).2.2.1
      have hys := (nodeUp_parts hy).2.2.1
      rw [storeMay_iff] at hys
      rw [(nodeUp_parts hy).2.2.2.2] at g2
      have hyu := (nodeUp_parts hy).1
      have tk : ∀ (n : Node) (is rest : List Item) (a : Item), nodeUp n = true → n.small → (∀ i ∈ is, itemMay i = true) → itemMay a = true →
          Den PP 43 [nodeD (is.foldl takeN n), .agg a.row] [] (.tup [nodeD ((is ++ [a]).foldl takeN n), .int .i64 0]) [] := by
        intro n is rest a h1 h2 h3 h4
        have := ref_Take (is.foldl takeN n) a (takes_small h2 h1 h3) (by rw [(takes_parts is n h1 h3).1, h4]; rfl)
        rw [List.foldl_append]
        exact this
      cases hp : x.view.peers with
      | nil =>
        rw [share_alone hu hp] at g1
        simp [nodeD, Node.cells, peersD, intsD, itemsD, toldsD, hp, hyu] at g1 g2
        simp -implicitDefEqProofs [c_gimmallaw18_ShareAll, nodeD, Node.cells, peersD, intsD, itemsD, toldsD, hp, hyu]
        repeat' (first | (refine callThen_of (by first | exact law18_awake | exact g1 | exact law_Num _ | exact g2) ?_; simp -implicitDefEqProofs [*, downTo]) | (with_reducible refine gOps_dec (fun _ => ?_) (fun _ => ?_) <;> simp -implicitDefEqProofs [*, downTo]) | (with_reducible refine gOps_ndec (fun _ => ?_) (fun _ => ?_) <;> simp -implicitDefEqProofs [*, downTo]) | (with_reducible refine gOps_and (fun hq => ?_) (fun hq => ?_) <;> (try simp at hq) <;> simp -implicitDefEqProofs [*, downTo]) | (with_reducible refine gOps_or (fun hq => ?_) (fun hq => ?_) <;> (try simp at hq) <;> simp -implicitDefEqProofs [*, downTo]) | (with_reducible refine gOps_not (fun hq => ?_) (fun hq => ?_) <;> (try simp at hq) <;> simp -implicitDefEqProofs [*, downTo]) | (with_reducible refine gOps_split (fun hq => ?_) (fun hq => ?_) <;> (try simp at hq) <;> simp -implicitDefEqProofs [*, downTo]) | (with_reducible refine condC_dec (fun _ => ?_) (fun _ => ?_) <;> simp -implicitDefEqProofs [*, downTo]) | (with_reducible refine condC_ndec (fun _ => ?_) (fun _ => ?_) <;> simp -implicitDefEqProofs [*, downTo]) | (with_reducible refine condC_and (fun hq => ?_) (fun hq => ?_) <;> (try simp at hq) <;> simp -implicitDefEqProofs [*, downTo]) | (with_reducible refine condC_or (fun hq => ?_) (fun hq => ?_) <;> (try simp at hq) <;> simp -implicitDefEqProofs [*, downTo]) | (with_reducible refine condC_not (fun hq => ?_) (fun hq => ?_) <;> (try simp at hq) <;> simp -implicitDefEqProofs [*, downTo]) | (with_reducible refine condC_split (fun hq => ?_) (fun hq => ?_) <;> (try simp at hq) <;> simp -implicitDefEqProofs [*, downTo]) | (refine appK2_if (by omega) ?_; simp -implicitDefEqProofs [*, downTo]) | (refine pureV_if (by omega) ?_; simp -implicitDefEqProofs [*, downTo]))
        refine list_rule ([] : List Item) (fun i rest => fun ⟨fr, bs⟩ => bs = [⟨[x.cells], 6, .box⟩, ⟨[y.cells], 6, .box⟩, ⟨[y.cells], 6, .box⟩] ∧ fr 2 = .ptr 0 0 0 ∧ fr 3 = .ptr 1 0 0 ∧ fr 5 = .sl [] 0 ∧ fr 7 = .ptr 2 0 0 ∧ fr 8 = .int .i64 i)
          (fun ⟨fr, bs⟩ => bs = [⟨[x.cells], 6, .box⟩, ⟨[y.cells], 6, .box⟩, ⟨[y.cells], 6, .box⟩] ∧ fr 2 = .ptr 0 0 0 ∧ fr 3 = .ptr 1 0 0 ∧ fr 5 = .sl [] 0 ∧ fr 7 = .ptr 2 0 0) (fun ⟨fr, bs⟩ => False) c_gimmallaw18_ShareAll_L0.eq_1 ?_ ?_ ?_ ?_ ?_
        · refine ⟨?_, rfl, rfl, rfl, rfl, rfl⟩
          simp [Node.cells, peersD, intsD, itemsD, toldsD, hp, hyu]
        · rintro i ⟨fr, bs⟩ hi ⟨rfl, h2, h3, h5, h7, h8⟩
          simp at hi
          simp -implicitDefEqProofs [h2, h3, h5, h7, h8, hi]
        · intro i a rest st hlt
          simp at hlt
        · rintro ⟨fr, bs⟩ ⟨rfl, h2, h3, h5, h7⟩
          simp -implicitDefEqProofs [h2, h3, h5, h7, Node.cells, peersD, intsD, itemsD, toldsD, hp, hyu]
          repeat' (first | (refine callThen_of (by first | exact g2) ?_; simp -implicitDefEqProofs [*, downTo]) | (with_reducible refine gOps_dec (fun _ => ?_) (fun _ => ?_) <;> simp -implicitDefEqProofs [*, downTo]) | (with_reducible refine gOps_ndec (fun _ => ?_) (fun _ => ?_) <;> simp -implicitDefEqProofs [*, downTo]) | (with_reducible refine gOps_and (fun hq => ?_) (fun hq => ?_) <;> (try simp at hq) <;> simp -implicitDefEqProofs [*, downTo]) | (with_reducible refine gOps_or (fun hq => ?_) (fun hq => ?_) <;> (try simp at hq) <;> simp -implicitDefEqProofs [*, downTo]) | (with_reducible refine gOps_not (fun hq => ?_) (fun hq => ?_) <;> (try simp at hq) <;> simp -implicitDefEqProofs [*, downTo]) | (with_reducible refine gOps_split (fun hq => ?_) (fun hq => ?_) <;> (try simp at hq) <;> simp -implicitDefEqProofs [*, downTo]) | (with_reducible refine condC_dec (fun _ => ?_) (fun _ => ?_) <;> simp -implicitDefEqProofs [*, downTo]) | (with_reducible refine condC_ndec (fun _ => ?_) (fun _ => ?_) <;> simp -implicitDefEqProofs [*, downTo]) | (with_reducible refine condC_and (fun hq => ?_) (fun hq => ?_) <;> (try simp at hq) <;> simp -implicitDefEqProofs [*, downTo]) | (with_reducible refine condC_or (fun hq => ?_) (fun hq => ?_) <;> (try simp at hq) <;> simp -implicitDefEqProofs [*, downTo]) | (with_reducible refine condC_not (fun hq => ?_) (fun hq => ?_) <;> (try simp at hq) <;> simp -implicitDefEqProofs [*, downTo]) | (with_reducible refine condC_split (fun hq => ?_) (fun hq => ?_) <;> (try simp at hq) <;> simp -implicitDefEqProofs [*, downTo]) | (refine appK2_if (by omega) ?_; simp -implicitDefEqProofs [*, downTo]) | (refine pureV_if (by omega) ?_; simp -implicitDefEqProofs [*, downTo]))
        · rintro ⟨fr, bs⟩ h
          exact h.elim
      | cons p0 ps0 =>
        have hne : x.view.peers ≠ [] := by simp [hp]
        clear hp
        rw [share_all hu hne] at g1
        simp only [nodeD, Node.cells, peersD, intsD, itemsD, toldsD, List.length_map, hyu] at g1 g2
        simp -implicitDefEqProofs [c_gimmallaw18_ShareAll, nodeD, Node.cells, peersD, intsD, itemsD, toldsD, hyu]
        repeat' (first | (refine callThen_of (by first | exact law18_awake | exact g1 | exact law_Num _ | exact g2) ?_; simp -implicitDefEqProofs [*, downTo]) | (with_reducible refine gOps_dec (fun _ => ?_) (fun _ => ?_) <;> simp -implicitDefEqProofs [*, downTo]) | (with_reducible refine gOps_ndec (fun _ => ?_) (fun _ => ?_) <;> simp -implicitDefEqProofs [*, downTo]) | (with_reducible refine gOps_and (fun hq => ?_) (fun hq => ?_) <;> (try simp at hq) <;> simp -implicitDefEqProofs [*, downTo]) | (with_reducible refine gOps_or (fun hq => ?_) (fun hq => ?_) <;> (try simp at hq) <;> simp -implicitDefEqProofs [*, downTo]) | (with_reducible refine gOps_not (fun hq => ?_) (fun hq => ?_) <;> (try simp at hq) <;> simp -implicitDefEqProofs [*, downTo]) | (with_reducible refine gOps_split (fun hq => ?_) (fun hq => ?_) <;> (try simp at hq) <;> simp -implicitDefEqProofs [*, downTo]) | (with_reducible refine condC_dec (fun _ => ?_) (fun _ => ?_) <;> simp -implicitDefEqProofs [*, downTo]) | (with_reducible refine condC_ndec (fun _ => ?_) (fun _ => ?_) <;> simp -implicitDefEqProofs [*, downTo]) | (with_reducible refine condC_and (fun hq => ?_) (fun hq => ?_) <;> (try simp at hq) <;> simp -implicitDefEqProofs [*, downTo]) | (with_reducible refine condC_or (fun hq => ?_) (fun hq => ?_) <;> (try simp at hq) <;> simp -implicitDefEqProofs [*, downTo]) | (with_reducible refine condC_not (fun hq => ?_) (fun hq => ?_) <;> (try simp at hq) <;> simp -implicitDefEqProofs [*, downTo]) | (with_reducible refine condC_split (fun hq => ?_) (fun hq => ?_) <;> (try simp at hq) <;> simp -implicitDefEqProofs [*, downTo]) | (refine appK2_if (by omega) ?_; simp -implicitDefEqProofs [*, downTo]) | (refine pureV_if (by omega) ?_; simp -implicitDefEqProofs [*, downTo]))
        have hln : x.items.length ≤ 16 := hxs.2.2
        have hlm : y.items.length ≤ 16 := hys.2.2
        refine list_rule x.items (fun i rest => fun ⟨fr, bs⟩ => ∃ N, N = (x.items.take i).foldl takeN y ∧ bs = [⟨[x.cells], 6, .box⟩, ⟨[y.cells], 6, .box⟩, ⟨[N.cells], 6, .box⟩] ∧ fr 2 = .ptr 0 0 0 ∧ fr 3 = .ptr 1 0 0 ∧ fr 5 = .sl ((x.items.map (shMsg x)).map Msg.row0) x.items.length ∧ fr 7 = .ptr 2 0 0 ∧ fr 8 = .int .i64 i)
          (fun ⟨fr, bs⟩ => bs = [⟨[x.cells], 6, .box⟩, ⟨[y.cells], 6, .box⟩, ⟨[(x.items.foldl takeN y).cells], 6, .box⟩] ∧ fr 2 = .ptr 0 0 0 ∧ fr 3 = .ptr 1 0 0 ∧ fr 5 = .sl ((x.items.map (shMsg x)).map Msg.row0) x.items.length ∧ fr 7 = .ptr 2 0 0) (fun ⟨fr, bs⟩ => False) c_gimmallaw18_ShareAll_L0.eq_1 ?_ ?_ ?_ ?_ ?_
        · refine ⟨y, rfl, ?_, rfl, rfl, by simp, rfl, rfl⟩
          simp [Node.cells, peersD, intsD, itemsD, toldsD, hyu]
        · rintro i ⟨fr, bs⟩ hi ⟨N, hN, rfl, h2, h3, h5, h7, h8⟩
          rw [hi, List.take_length] at hN
          subst hN
          simp -implicitDefEqProofs [h2, h3, h5, h7, h8, hi]
        · rintro i a rest ⟨fr, bs⟩ hlt hget hg hd hd2 ⟨N, hN, rfl, h2, h3, h5, h7, h8⟩
          have hlt' : (i : Int) < x.items.length := by omega
          have hw := wrap_next (n := i) (by omega)
          have c := tk y (x.items.take i) rest a hy hsy (fun j hj => hxi j (List.mem_of_mem_take hj)) (hxi a (List.mem_of_getElem? hget))
          have ht : x.items.take i ++ [a] = x.items.take (i + 1) := by rw [List.take_add_one, hget]; rfl
          rw [ht, ← hN] at c
          obtain ⟨M, hM⟩ : ∃ M, (x.items.take (i + 1)).foldl takeN y = M := ⟨_, rfl⟩
          rw [hM] at c
          simp only [nodeD, Node.cells, peersD, intsD, itemsD, toldsD, Item.row] at c
          clear g1 g2 tk ht
          simp -implicitDefEqProofs [h2, h3, h5, h7, h8, hlt, hlt', hget, hg, Node.cells, peersD, intsD, itemsD, toldsD, Item.row, Msg.row0, shMsg]
          repeat' (first | (refine callThen_of (by first | exact c) ?_; simp -implicitDefEqProofs [*, hw, hlt, hlt', hget, hg, Node.cells, peersD, intsD, itemsD, toldsD, Item.row, Msg.row0, shMsg]) | (with_reducible refine gOps_dec (fun _ => ?_) (fun _ => ?_) <;> simp -implicitDefEqProofs [*, hw, hlt, hlt', hget, hg, Node.cells, peersD, intsD, itemsD, toldsD, Item.row, Msg.row0, shMsg]) | (with_reducible refine gOps_ndec (fun _ => ?_) (fun _ => ?_) <;> simp -implicitDefEqProofs [*, hw, hlt, hlt', hget, hg, Node.cells, peersD, intsD, itemsD, toldsD, Item.row, Msg.row0, shMsg]) | (with_reducible refine gOps_and (fun hq => ?_) (fun hq => ?_) <;> (try simp at hq) <;> simp -implicitDefEqProofs [*, hw, hlt, hlt', hget, hg, Node.cells, peersD, intsD, itemsD, toldsD, Item.row, Msg.row0, shMsg]) | (with_reducible refine gOps_or (fun hq => ?_) (fun hq => ?_) <;> (try simp at hq) <;> simp -implicitDefEqProofs [*, hw, hlt, hlt', hget, hg, Node.cells, peersD, intsD, itemsD, toldsD, Item.row, Msg.row0, shMsg]) | (with_reducible refine gOps_not (fun hq => ?_) (fun hq => ?_) <;> (try simp at hq) <;> simp -implicitDefEqProofs [*, hw, hlt, hlt', hget, hg, Node.cells, peersD, intsD, itemsD, toldsD, Item.row, Msg.row0, shMsg]) | (with_reducible refine gOps_split (fun hq => ?_) (fun hq => ?_) <;> (try simp at hq) <;> simp -implicitDefEqProofs [*, hw, hlt, hlt', hget, hg, Node.cells, peersD, intsD, itemsD, toldsD, Item.row, Msg.row0, shMsg]) | (with_reducible refine condC_dec (fun _ => ?_) (fun _ => ?_) <;> simp -implicitDefEqProofs [*, hw, hlt, hlt', hget, hg, Node.cells, peersD, intsD, itemsD, toldsD, Item.row, Msg.row0, shMsg]) | (with_reducible refine condC_ndec (fun _ => ?_) (fun _ => ?_) <;> simp -implicitDefEqProofs [*, hw, hlt, hlt', hget, hg, Node.cells, peersD, intsD, itemsD, toldsD, Item.row, Msg.row0, shMsg]) | (with_reducible refine condC_and (fun hq => ?_) (fun hq => ?_) <;> (try simp at hq) <;> simp -implicitDefEqProofs [*, hw, hlt, hlt', hget, hg, Node.cells, peersD, intsD, itemsD, toldsD, Item.row, Msg.row0, shMsg]) | (with_reducible refine condC_or (fun hq => ?_) (fun hq => ?_) <;> (try simp at hq) <;> simp -implicitDefEqProofs [*, hw, hlt, hlt', hget, hg, Node.cells, peersD, intsD, itemsD, toldsD, Item.row, Msg.row0, shMsg]) | (with_reducible refine condC_not (fun hq => ?_) (fun hq => ?_) <;> (try simp at hq) <;> simp -implicitDefEqProofs [*, hw, hlt, hlt', hget, hg, Node.cells, peersD, intsD, itemsD, toldsD, Item.row, Msg.row0, shMsg]) | (with_reducible refine condC_split (fun hq => ?_) (fun hq => ?_) <;> (try simp at hq) <;> simp -implicitDefEqProofs [*, hw, hlt, hlt', hget, hg, Node.cells, peersD, intsD, itemsD, toldsD, Item.row, Msg.row0, shMsg]) | (refine appK2_if (by omega) ?_; simp -implicitDefEqProofs [*, hw, hlt, hlt', hget, hg, Node.cells, peersD, intsD, itemsD, toldsD, Item.row, Msg.row0, shMsg]) | (refine pureV_if (by omega) ?_; simp -implicitDefEqProofs [*, hw, hlt, hlt', hget, hg, Node.cells, peersD, intsD, itemsD, toldsD, Item.row, Msg.row0, shMsg]))
        · rintro ⟨fr, bs⟩ ⟨rfl, h2, h3, h5, h7⟩
          obtain ⟨z1, z2, z3, z4, z5⟩ := takes_parts x.items y hy hxi
          have zs := takes_small hsy hy hxi
          obtain ⟨w1, w2, w3, w4, w5⟩ := takes_parts y.items x hu hyi
          have ws := takes_small hs hu hyi
          have g3 := ref_NodeMay (x.items.foldl takeN y) zs
          rw [(nodeUp_parts z1).2.2.2.2] at g3
          have heq : x.items.length + y.items.length ≤ 16 → (x.items.foldl takeN y).items = (y.items.foldl takeN x).items := by
            intro hl
            rw [z5 (by omega), w5 (by omega)]
            exact puts_comm hys.2.1 hxs.2.1
          have g4 := law_SameItems (x.items.foldl takeN y).items (y.items.foldl takeN x).items (by have := zs.2.1; unfold cap; omega)
          obtain ⟨Z, hZ⟩ : ∃ Z, x.items.foldl takeN y = Z := ⟨_, rfl⟩
          rw [hZ] at g3 g4 heq ⊢
          simp only [nodeD, Node.cells, peersD, intsD, itemsD, toldsD] at g3
          by_cases hsh : x.items.length = 0 ∨ 16 < x.items.length + y.items.length
          · rcases hsh with hsh | hsh
            · simp -implicitDefEqProofs [h2, h3, h5, h7, Node.cells, peersD, intsD, itemsD, toldsD, hsh]
              repeat' (first | (refine callThen_of (by first | exact g3) ?_; simp -implicitDefEqProofs [*, downTo, hsh]) | (with_reducible refine gOps_dec (fun _ => ?_) (fun _ => ?_) <;> simp -implicitDefEqProofs [*, downTo, hsh]) | (with_reducible refine gOps_ndec (fun _ => ?_) (fun _ => ?_) <;> simp -implicitDefEqProofs [*, downTo, hsh]) | (with_reducible refine gOps_and (fun hq => ?_) (fun hq => ?_) <;> (try simp at hq) <;> simp -implicitDefEqProofs [*, downTo, hsh]) | (with_reducible refine gOps_or (fun hq => ?_) (fun hq => ?_) <;> (try simp at hq) <;> simp -implicitDefEqProofs [*, downTo, hsh]) | (with_reducible refine gOps_not (fun hq => ?_) (fun hq => ?_) <;> (try simp at hq) <;> simp -implicitDefEqProofs [*, downTo, hsh]) | (with_reducible refine gOps_split (fun hq => ?_) (fun hq => ?_) <;> (try simp at hq) <;> simp -implicitDefEqProofs [*, downTo, hsh]) | (with_reducible refine condC_dec (fun _ => ?_) (fun _ => ?_) <;> simp -implicitDefEqProofs [*, downTo, hsh]) | (with_reducible refine condC_ndec (fun _ => ?_) (fun _ => ?_) <;> simp -implicitDefEqProofs [*, downTo, hsh]) | (with_reducible refine condC_and (fun hq => ?_) (fun hq => ?_) <;> (try simp at hq) <;> simp -implicitDefEqProofs [*, downTo, hsh]) | (with_reducible refine condC_or (fun hq => ?_) (fun hq => ?_) <;> (try simp at hq) <;> simp -implicitDefEqProofs [*, downTo, hsh]) | (with_reducible refine condC_not (fun hq => ?_) (fun hq => ?_) <;> (try simp at hq) <;> simp -implicitDefEqProofs [*, downTo, hsh]) | (with_reducible refine condC_split (fun hq => ?_) (fun hq => ?_) <;> (try simp at hq) <;> simp -implicitDefEqProofs [*, downTo, hsh]) | (refine appK2_if (by omega) ?_; simp -implicitDefEqProofs [*, downTo, hsh]) | (refine pureV_if (by omega) ?_; simp -implicitDefEqProofs [*, downTo, hsh]))
            · rcases Nat.eq_zero_or_pos x.items.length with h0 | h0
              · simp -implicitDefEqProofs [h2, h3, h5, h7, Node.cells, peersD, intsD, itemsD, toldsD, h0]
                repeat' (first | (refine callThen_of (by first | exact g3) ?_; simp -implicitDefEqProofs [*, downTo, h0]) | (with_reducible refine gOps_dec (fun _ => ?_) (fun _ => ?_) <;> simp -implicitDefEqProofs [*, downTo, h0]) | (with_reducible refine gOps_ndec (fun _ => ?_) (fun _ => ?_) <;> simp -implicitDefEqProofs [*, downTo, h0]) | (with_reducible refine gOps_and (fun hq => ?_) (fun hq => ?_) <;> (try simp at hq) <;> simp -implicitDefEqProofs [*, downTo, h0]) | (with_reducible refine gOps_or (fun hq => ?_) (fun hq => ?_) <;> (try simp at hq) <;> simp -implicitDefEqProofs [*, downTo, h0]) | (with_reducible refine gOps_not (fun hq => ?_) (fun hq => ?_) <;> (try simp at hq) <;> simp -implicitDefEqProofs [*, downTo, h0]) | (with_reducible refine gOps_split (fun hq => ?_) (fun hq => ?_) <;> (try simp at hq) <;> simp -implicitDefEqProofs [*, downTo, h0]) | (with_reducible refine condC_dec (fun _ => ?_) (fun _ => ?_) <;> simp -implicitDefEqProofs [*, downTo, h0]) | (with_reducible refine condC_ndec (fun _ => ?_) (fun _ => ?_) <;> simp -implicitDefEqProofs [*, downTo, h0]) | (with_reducible refine condC_and (fun hq => ?_) (fun hq => ?_) <;> (try simp at hq) <;> simp -implicitDefEqProofs [*, downTo, h0]) | (with_reducible refine condC_or (fun hq => ?_) (fun hq => ?_) <;> (try simp at hq) <;> simp -implicitDefEqProofs [*, downTo, h0]) | (with_reducible refine condC_not (fun hq => ?_) (fun hq => ?_) <;> (try simp at hq) <;> simp -implicitDefEqProofs [*, downTo, h0]) | (with_reducible refine condC_split (fun hq => ?_) (fun hq => ?_) <;> (try simp at hq) <;> simp -implicitDefEqProofs [*, downTo, h0]) | (refine appK2_if (by omega) ?_; simp -implicitDefEqProofs [*, downTo, h0]) | (refine pureV_if (by omega) ?_; simp -implicitDefEqProofs [*, downTo, h0]))
              have hn0 : ¬ x.items.length = 0 := by omega
              have hsh' : (16 : Int) < x.items.length + y.items.length := by omega
              have hwr := wrap_in (n := (x.items.length : Int) + y.items.length) (by omega) (by omega)
              simp -implicitDefEqProofs [h2, h3, h5, h7, Node.cells, peersD, intsD, itemsD, toldsD, hn0, hsh, hsh', hwr]
              repeat' (first | (refine callThen_of (by first | exact g3) ?_; simp -implicitDefEqProofs [*, downTo, hn0, hsh, hsh', hwr]) | (with_reducible refine gOps_dec (fun _ => ?_) (fun _ => ?_) <;> simp -implicitDefEqProofs [*, downTo, hn0, hsh, hsh', hwr]) | (with_reducible refine gOps_ndec (fun _ => ?_) (fun _ => ?_) <;> simp -implicitDefEqProofs [*, downTo, hn0, hsh, hsh', hwr]) | (with_reducible refine gOps_and (fun hq => ?_) (fun hq => ?_) <;> (try simp at hq) <;> simp -implicitDefEqProofs [*, downTo, hn0, hsh, hsh', hwr]) | (with_reducible refine gOps_or (fun hq => ?_) (fun hq => ?_) <;> (try simp at hq) <;> simp -implicitDefEqProofs [*, downTo, hn0, hsh, hsh', hwr]) | (with_reducible refine gOps_not (fun hq => ?_) (fun hq => ?_) <;> (try simp at hq) <;> simp -implicitDefEqProofs [*, downTo, hn0, hsh, hsh', hwr]) | (with_reducible refine gOps_split (fun hq => ?_) (fun hq => ?_) <;> (try simp at hq) <;> simp -implicitDefEqProofs [*, downTo, hn0, hsh, hsh', hwr]) | (with_reducible refine condC_dec (fun _ => ?_) (fun _ => ?_) <;> simp -implicitDefEqProofs [*, downTo, hn0, hsh, hsh', hwr]) | (with_reducible refine condC_ndec (fun _ => ?_) (fun _ => ?_) <;> simp -implicitDefEqProofs [*, downTo, hn0, hsh, hsh', hwr]) | (with_reducible refine condC_and (fun hq => ?_) (fun hq => ?_) <;> (try simp at hq) <;> simp -implicitDefEqProofs [*, downTo, hn0, hsh, hsh', hwr]) | (with_reducible refine condC_or (fun hq => ?_) (fun hq => ?_) <;> (try simp at hq) <;> simp -implicitDefEqProofs [*, downTo, hn0, hsh, hsh', hwr]) | (with_reducible refine condC_not (fun hq => ?_) (fun hq => ?_) <;> (try simp at hq) <;> simp -implicitDefEqProofs [*, downTo, hn0, hsh, hsh', hwr]) | (with_reducible refine condC_split (fun hq => ?_) (fun hq => ?_) <;> (try simp at hq) <;> simp -implicitDefEqProofs [*, downTo, hn0, hsh, hsh', hwr]) | (refine appK2_if (by omega) ?_; simp -implicitDefEqProofs [*, downTo, hn0, hsh, hsh', hwr]) | (refine pureV_if (by omega) ?_; simp -implicitDefEqProofs [*, downTo, hn0, hsh, hsh', hwr]))
              all_goals trace_state
          · have hn0 : ¬ x.items.length = 0 := by omega
            have hle : x.items.length + y.items.length ≤ 16 := by omega
            have hwr := wrap_in (n := (x.items.length : Int) + y.items.length) (by omega) (by omega)
            have hle' : ¬ (16 : Int) < x.items.length + y.items.length := by omega
            rw [heq hle] at g4
            simp -implicitDefEqProofs [h2, h3, h5, h7, Node.cells, peersD, intsD, itemsD, toldsD, hn0, hle', hwr]
            repeat' (first | (with_reducible refine gOps_dec (fun _ => ?_) (fun _ => ?_) <;> simp -implicitDefEqProofs [*, downTo, hn0, hle', hwr]) | (with_reducible refine gOps_ndec (fun _ => ?_) (fun _ => ?_) <;> simp -implicitDefEqProofs [*, downTo, hn0, hle', hwr]) | (with_reducible refine gOps_and (fun hq => ?_) (fun hq => ?_) <;> (try simp at hq) <;> simp -implicitDefEqProofs [*, downTo, hn0, hle', hwr]) | (with_reducible refine gOps_or (fun hq => ?_) (fun hq => ?_) <;> (try simp at hq) <;> simp -implicitDefEqProofs [*, downTo, hn0, hle', hwr]) | (with_reducible refine gOps_not (fun hq => ?_) (fun hq => ?_) <;> (try simp at hq) <;> simp -implicitDefEqProofs [*, downTo, hn0, hle', hwr]) | (with_reducible refine gOps_split (fun hq => ?_) (fun hq => ?_) <;> (try simp at hq) <;> simp -implicitDefEqProofs [*, downTo, hn0, hle', hwr]) | (with_reducible refine condC_dec (fun _ => ?_) (fun _ => ?_) <;> simp -implicitDefEqProofs [*, downTo, hn0, hle', hwr]) | (with_reducible refine condC_ndec (fun _ => ?_) (fun _ => ?_) <;> simp -implicitDefEqProofs [*, downTo, hn0, hle', hwr]) | (with_reducible refine condC_and (fun hq => ?_) (fun hq => ?_) <;> (try simp at hq) <;> simp -implicitDefEqProofs [*, downTo, hn0, hle', hwr]) | (with_reducible refine condC_or (fun hq => ?_) (fun hq => ?_) <;> (try simp at hq) <;> simp -implicitDefEqProofs [*, downTo, hn0, hle', hwr]) | (with_reducible refine condC_not (fun hq => ?_) (fun hq => ?_) <;> (try simp at hq) <;> simp -implicitDefEqProofs [*, downTo, hn0, hle', hwr]) | (with_reducible refine condC_split (fun hq => ?_) (fun hq => ?_) <;> (try simp at hq) <;> simp -implicitDefEqProofs [*, downTo, hn0, hle', hwr]) | (refine appK2_if (by omega) ?_; simp -implicitDefEqProofs [*, downTo, hn0, hle', hwr]) | (refine pureV_if (by omega) ?_; simp -implicitDefEqProofs [*, downTo, hn0, hle', hwr]))
            refine list_rule y.items (fun i rest => fun ⟨fr, bs⟩ => ∃ N, N = (y.items.take i).foldl takeN x ∧ bs = [⟨[x.cells], 6, .box⟩, ⟨[y.cells], 6, .box⟩, ⟨[Z.cells], 6, .box⟩, ⟨[N.cells], 6, .box⟩] ∧ fr 3 = .ptr 1 0 0 ∧ fr 7 = .ptr 2 0 0 ∧ fr 11 = .ptr 3 0 0 ∧ fr 12 = .int .i64 i)
              (fun ⟨fr, bs⟩ => bs = [⟨[x.cells], 6, .box⟩, ⟨[y.cells], 6, .box⟩, ⟨[Z.cells], 6, .box⟩, ⟨[(y.items.foldl takeN x).cells], 6, .box⟩] ∧ fr 7 = .ptr 2 0 0 ∧ fr 11 = .ptr 3 0 0) (fun ⟨fr, bs⟩ => False) c_gimmallaw18_ShareAll_L1.eq_1 ?_ ?_ ?_ ?_ ?_
            · refine ⟨x, rfl, ?_, by simp [h3], by simp [h7], rfl, rfl⟩
              simp [Node.cells, peersD, intsD, itemsD, toldsD]
            · rintro i ⟨fr, bs⟩ hi ⟨N, hN, rfl, h3, h7, h11, h12⟩
              rw [hi, List.take_length] at hN
              subst hN
              simp -implicitDefEqProofs [h3, h7, h11, h12, hi, Node.cells, peersD, intsD, itemsD, toldsD]
            · rintro i a rest ⟨fr, bs⟩ hlt hget hg hd hd2 ⟨N, hN, rfl, h3, h7, h11, h12⟩
              have hlt' : (i : Int) < y.items.length := by omega
              have hw := wrap_next (n := i) (by omega)
              have c := tk x (y.items.take i) rest a hu hs (fun j hj => hyi j (List.mem_of_mem_take hj)) (hyi a (List.mem_of_getElem? hget))
              have ht : y.items.take i ++ [a] = y.items.take (i + 1) := by rw [List.take_add_one, hget]; rfl
              rw [ht, ← hN] at c
              obtain ⟨M, hM⟩ : ∃ M, (y.items.take (i + 1)).foldl takeN x = M := ⟨_, rfl⟩
              rw [hM] at c
              simp only [nodeD, Node.cells, peersD, intsD, itemsD, toldsD, Item.row] at c
              clear g1 g2 g3 g4 heq tk ht
              simp -implicitDefEqProofs [h3, h7, h11, h12, hlt, hlt', hget, hg, Node.cells, peersD, intsD, itemsD, toldsD, Item.row]
              repeat' (first | (refine callThen_of (by first | exact c) ?_; simp -implicitDefEqProofs [*, hw, hlt, hlt', hget, hg, Node.cells, peersD, intsD, itemsD, toldsD, Item.row]) | (with_reducible refine gOps_dec (fun _ => ?_) (fun _ => ?_) <;> simp -implicitDefEqProofs [*, hw, hlt, hlt', hget, hg, Node.cells, peersD, intsD, itemsD, toldsD, Item.row]) | (with_reducible refine gOps_ndec (fun _ => ?_) (fun _ => ?_) <;> simp -implicitDefEqProofs [*, hw, hlt, hlt', hget, hg, Node.cells, peersD, intsD, itemsD, toldsD, Item.row]) | (with_reducible refine gOps_and (fun hq => ?_) (fun hq => ?_) <;> (try simp at hq) <;> simp -implicitDefEqProofs [*, hw, hlt, hlt', hget, hg, Node.cells, peersD, intsD, itemsD, toldsD, Item.row]) | (with_reducible refine gOps_or (fun hq => ?_) (fun hq => ?_) <;> (try simp at hq) <;> simp -implicitDefEqProofs [*, hw, hlt, hlt', hget, hg, Node.cells, peersD, intsD, itemsD, toldsD, Item.row]) | (with_reducible refine gOps_not (fun hq => ?_) (fun hq => ?_) <;> (try simp at hq) <;> simp -implicitDefEqProofs [*, hw, hlt, hlt', hget, hg, Node.cells, peersD, intsD, itemsD, toldsD, Item.row]) | (with_reducible refine gOps_split (fun hq => ?_) (fun hq => ?_) <;> (try simp at hq) <;> simp -implicitDefEqProofs [*, hw, hlt, hlt', hget, hg, Node.cells, peersD, intsD, itemsD, toldsD, Item.row]) | (with_reducible refine condC_dec (fun _ => ?_) (fun _ => ?_) <;> simp -implicitDefEqProofs [*, hw, hlt, hlt', hget, hg, Node.cells, peersD, intsD, itemsD, toldsD, Item.row]) | (with_reducible refine condC_ndec (fun _ => ?_) (fun _ => ?_) <;> simp -implicitDefEqProofs [*, hw, hlt, hlt', hget, hg, Node.cells, peersD, intsD, itemsD, toldsD, Item.row]) | (with_reducible refine condC_and (fun hq => ?_) (fun hq => ?_) <;> (try simp at hq) <;> simp -implicitDefEqProofs [*, hw, hlt, hlt', hget, hg, Node.cells, peersD, intsD, itemsD, toldsD, Item.row]) | (with_reducible refine condC_or (fun hq => ?_) (fun hq => ?_) <;> (try simp at hq) <;> simp -implicitDefEqProofs [*, hw, hlt, hlt', hget, hg, Node.cells, peersD, intsD, itemsD, toldsD, Item.row]) | (with_reducible refine condC_not (fun hq => ?_) (fun hq => ?_) <;> (try simp at hq) <;> simp -implicitDefEqProofs [*, hw, hlt, hlt', hget, hg, Node.cells, peersD, intsD, itemsD, toldsD, Item.row]) | (with_reducible refine condC_split (fun hq => ?_) (fun hq => ?_) <;> (try simp at hq) <;> simp -implicitDefEqProofs [*, hw, hlt, hlt', hget, hg, Node.cells, peersD, intsD, itemsD, toldsD, Item.row]) | (refine appK2_if (by omega) ?_; simp -implicitDefEqProofs [*, hw, hlt, hlt', hget, hg, Node.cells, peersD, intsD, itemsD, toldsD, Item.row]) | (refine pureV_if (by omega) ?_; simp -implicitDefEqProofs [*, hw, hlt, hlt', hget, hg, Node.cells, peersD, intsD, itemsD, toldsD, Item.row]))
            · rintro ⟨fr, bs⟩ ⟨rfl, h7, h11⟩
              simp -implicitDefEqProofs [h7, h11, Node.cells, peersD, intsD, itemsD, toldsD, heq hle]
              simp only [itemsD] at g4
              repeat' (first | (refine callThen_of (by first | exact g4 | exact law18_node100) ?_; simp -implicitDefEqProofs [*]) | (with_reducible refine gOps_dec (fun _ => ?_) (fun _ => ?_) <;> simp -implicitDefEqProofs [*]) | (with_reducible refine gOps_ndec (fun _ => ?_) (fun _ => ?_) <;> simp -implicitDefEqProofs [*]) | (with_reducible refine gOps_and (fun hq => ?_) (fun hq => ?_) <;> (try simp at hq) <;> simp -implicitDefEqProofs [*]) | (with_reducible refine gOps_or (fun hq => ?_) (fun hq => ?_) <;> (try simp at hq) <;> simp -implicitDefEqProofs [*]) | (with_reducible refine gOps_not (fun hq => ?_) (fun hq => ?_) <;> (try simp at hq) <;> simp -implicitDefEqProofs [*]) | (with_reducible refine gOps_split (fun hq => ?_) (fun hq => ?_) <;> (try simp at hq) <;> simp -implicitDefEqProofs [*]) | (with_reducible refine condC_dec (fun _ => ?_) (fun _ => ?_) <;> simp -implicitDefEqProofs [*]) | (with_reducible refine condC_ndec (fun _ => ?_) (fun _ => ?_) <;> simp -implicitDefEqProofs [*]) | (with_reducible refine condC_and (fun hq => ?_) (fun hq => ?_) <;> (try simp at hq) <;> simp -implicitDefEqProofs [*]) | (with_reducible refine condC_or (fun hq => ?_) (fun hq => ?_) <;> (try simp at hq) <;> simp -implicitDefEqProofs [*]) | (with_reducible refine condC_not (fun hq => ?_) (fun hq => ?_) <;> (try simp at hq) <;> simp -implicitDefEqProofs [*]) | (with_reducible refine condC_split (fun hq => ?_) (fun hq => ?_) <;> (try simp at hq) <;> simp -implicitDefEqProofs [*]) | (refine appK2_if (by omega) ?_; simp -implicitDefEqProofs [*]) | (refine pureV_if (by omega) ?_; simp -implicitDefEqProofs [*]))
              all_goals trace_state
            · rintro ⟨fr, bs⟩ h
              exact h.elim
        · rintro ⟨fr, bs⟩ h
          exact h.elim
    · have hyf : nodeUp y = false := by simpa using hy
      cases hp : x.view.peers with
      | nil =>
        rw [share_alone hu hp] at g1
        simp [nodeD, Node.cells, peersD, intsD, itemsD, toldsD, hp] at g1
        obtain ⟨B, hB⟩ : ∃ B, nodeMay y = B := ⟨_, rfl⟩
        rw [hB] at g2
        have hyb : B = false ∨ y.up = false := by
          rw [← hB]
          cases h : y.up <;> simp_all [nodeUp]
        simp only [nodeD, Node.cells, peersD, intsD, itemsD, toldsD] at g2
        simp -implicitDefEqProofs [c_gimmallaw18_ShareAll, nodeD, Node.cells, peersD, intsD, itemsD, toldsD, hp]
        repeat' (first | (refine callThen_of (by first | exact law18_awake | exact g1 | exact law_Num _ | exact g2) ?_; simp -implicitDefEqProofs [*, downTo]) | (with_reducible refine gOps_dec (fun _ => ?_) (fun _ => ?_) <;> simp -implicitDefEqProofs [*, downTo]) | (with_reducible refine gOps_ndec (fun _ => ?_) (fun _ => ?_) <;> simp -implicitDefEqProofs [*, downTo]) | (with_reducible refine gOps_and (fun hq => ?_) (fun hq => ?_) <;> (try simp at hq) <;> simp -implicitDefEqProofs [*, downTo]) | (with_reducible refine gOps_or (fun hq => ?_) (fun hq => ?_) <;> (try simp at hq) <;> simp -implicitDefEqProofs [*, downTo]) | (with_reducible refine gOps_not (fun hq => ?_) (fun hq => ?_) <;> (try simp at hq) <;> simp -implicitDefEqProofs [*, downTo]) | (with_reducible refine gOps_split (fun hq => ?_) (fun hq => ?_) <;> (try simp at hq) <;> simp -implicitDefEqProofs [*, downTo]) | (with_reducible refine condC_dec (fun _ => ?_) (fun _ => ?_) <;> simp -implicitDefEqProofs [*, downTo]) | (with_reducible refine condC_ndec (fun _ => ?_) (fun _ => ?_) <;> simp -implicitDefEqProofs [*, downTo]) | (with_reducible refine condC_and (fun hq => ?_) (fun hq => ?_) <;> (try simp at hq) <;> simp -implicitDefEqProofs [*, downTo]) | (with_reducible refine condC_or (fun hq => ?_) (fun hq => ?_) <;> (try simp at hq) <;> simp -implicitDefEqProofs [*, downTo]) | (with_reducible refine condC_not (fun hq => ?_) (fun hq => ?_) <;> (try simp at hq) <;> simp -implicitDefEqProofs [*, downTo]) | (with_reducible refine condC_split (fun hq => ?_) (fun hq => ?_) <;> (try simp at hq) <;> simp -implicitDefEqProofs [*, downTo]) | (refine appK2_if (by omega) ?_; simp -implicitDefEqProofs [*, downTo]) | (refine pureV_if (by omega) ?_; simp -implicitDefEqProofs [*, downTo]))
        all_goals (exfalso; rcases hyb with h | h <;> simp_all)
      | cons p0 ps0 =>
        have hne : x.view.peers ≠ [] := by simp [hp]
        clear hp
        rw [share_all hu hne] at g1
        obtain ⟨B, hB⟩ : ∃ B, nodeMay y = B := ⟨_, rfl⟩
        rw [hB] at g2
        have hyb : B = false ∨ y.up = false := by
          rw [← hB]
          cases h : y.up <;> simp_all [nodeUp]
        simp only [nodeD, Node.cells, peersD, intsD, itemsD, toldsD, List.length_map] at g1 g2
        simp -implicitDefEqProofs [c_gimmallaw18_ShareAll, nodeD, Node.cells, peersD, intsD, itemsD, toldsD]
        repeat' (first | (refine callThen_of (by first | exact law18_awake | exact g1 | exact law_Num _ | exact g2) ?_; simp -implicitDefEqProofs [*, downTo]) | (with_reducible refine gOps_dec (fun _ => ?_) (fun _ => ?_) <;> simp -implicitDefEqProofs [*, downTo]) | (with_reducible refine gOps_ndec (fun _ => ?_) (fun _ => ?_) <;> simp -implicitDefEqProofs [*, downTo]) | (with_reducible refine gOps_and (fun hq => ?_) (fun hq => ?_) <;> (try simp at hq) <;> simp -implicitDefEqProofs [*, downTo]) | (with_reducible refine gOps_or (fun hq => ?_) (fun hq => ?_) <;> (try simp at hq) <;> simp -implicitDefEqProofs [*, downTo]) | (with_reducible refine gOps_not (fun hq => ?_) (fun hq => ?_) <;> (try simp at hq) <;> simp -implicitDefEqProofs [*, downTo]) | (with_reducible refine gOps_split (fun hq => ?_) (fun hq => ?_) <;> (try simp at hq) <;> simp -implicitDefEqProofs [*, downTo]) | (with_reducible refine condC_dec (fun _ => ?_) (fun _ => ?_) <;> simp -implicitDefEqProofs [*, downTo]) | (with_reducible refine condC_ndec (fun _ => ?_) (fun _ => ?_) <;> simp -implicitDefEqProofs [*, downTo]) | (with_reducible refine condC_and (fun hq => ?_) (fun hq => ?_) <;> (try simp at hq) <;> simp -implicitDefEqProofs [*, downTo]) | (with_reducible refine condC_or (fun hq => ?_) (fun hq => ?_) <;> (try simp at hq) <;> simp -implicitDefEqProofs [*, downTo]) | (with_reducible refine condC_not (fun hq => ?_) (fun hq => ?_) <;> (try simp at hq) <;> simp -implicitDefEqProofs [*, downTo]) | (with_reducible refine condC_split (fun hq => ?_) (fun hq => ?_) <;> (try simp at hq) <;> simp -implicitDefEqProofs [*, downTo]) | (refine appK2_if (by omega) ?_; simp -implicitDefEqProofs [*, downTo]) | (refine pureV_if (by omega) ?_; simp -implicitDefEqProofs [*, downTo]))
        all_goals (exfalso; rcases hyb with h | h <;> simp_all)
end Go.AM
